/- The evaluator, 6: rows: what is written, made, appended, copied. No program in sight. -/
import Derived.Test.YtlijlapkhimaoaaGreatDoorE5
import Derived.Deep.Upon
namespace Go.Proofs.YtlijlapkhimaoaaGreatDoor
open Go Go.RowKit

theorem overlay_append : ∀ (vs : List Value) (l r : List Value) (off : Nat), off + vs.length ≤ l.length → overlay (l ++ r) off vs = overlay l off vs ++ r
  | [], l, r, off, _ => rfl
  | v :: vs, l, r, off, h => by
    simp only [List.length_cons] at h
    simp only [overlay]
    rw [List.set_append_left _ _ (by omega), overlay_append vs (l.set off v) r (off + 1) (by simp; omega)]
theorem overlay_len : ∀ (vs : List Value) (l : List Value) (off : Nat), (overlay l off vs).length = l.length
  | [], _, _ => rfl
  | v :: vs, l, off => by rw [overlay, overlay_len vs]; simp
theorem overlay_tail : ∀ (vs : List Value) (l : List Value) (off : Nat), off + vs.length ≤ l.length → overlay l off vs = l.take off ++ vs ++ l.drop (off + vs.length)
  | [], l, off, _ => by simp [overlay]
  | v :: vs, l, off, h => by
    simp only [List.length_cons] at h
    rw [overlay, overlay_tail vs _ _ (by simp; omega)]
    have h1 : (l.set off v).take (off + 1) = l.take off ++ [v] := by
      rw [List.take_set, List.take_add_one, List.getElem?_eq_getElem (by omega)]
      simp only [Option.toList_some]
      rw [List.set_append_right _ _ (by rw [List.length_take]; omega)]
      have : off - (l.take off).length = 0 := by rw [List.length_take]; omega
      rw [this]
      simp
    have h2 : (l.set off v).drop (off + 1 + vs.length) = l.drop (off + (vs.length + 1)) := by
      rw [List.drop_set_of_lt (by omega)]
      congr 1
      omega
    rw [h1, h2]
    simp
theorem setCells_eq (b : Nat) : ∀ (vs : List Value) (w : World) (o : Nat), w.setCells b o vs = putCells w b o vs
  | [], _, _ => rfl
  | _ :: vs, _, o => setCells_eq b vs _ (o + 1)

section
variable {P : Program} {w0 w : World} {A : Anch} {ν : Nm} {s : St}

/-- a block turns that no name has any more -/
theorem WRel.raw (h : WRel P w0 A ν s w) {w' : World} {g : Nat} {obj : Obj} (hno : ∀ i o, s.h.get i = some o → ν i ≠ some g) (h0 : w0.heap.size ≤ g) (hown : A.w.heap.size ≤ g ∨ ∃ j o, A.h.get j = some o ∧ A.ν j = some g) (hw : Upd w g obj w') : WRel P w0 A ν s w' := by
  refine ⟨⟨hw.os.trans h.keep.os, hw.tape.trans h.keep.tape, hw.output.trans h.keep.output, by rw [hw.size]; exact h.keep.size, fun k hk hn => ?_⟩, h.top, fun j o' hj => ?_, h.inj, h.ext, h.anc, fun j o' hj hn => ?_, fun k hk hn => ?_, by rw [hw.size]; exact h.big, h.own, h.ctx⟩
  · rw [hw.rest k (by omega)]
    exact h.keep.block k hk hn
  · obtain ⟨g', obj', h1, h2, h3, h4⟩ := h.objs j o' hj
    exact ⟨g', obj', h1, h2, (hw.rest g' fun e => hno j o' hj (by rw [h1, e])).trans h3, h4⟩
  · obtain ⟨⟨o2, h1⟩, h2⟩ := h.same j o' hj hn
    exact ⟨⟨o2, h1⟩, fun g' hg' => (hw.rest g' fun e => hno j o2 h1 (by rw [h.ext _ _ hg', e])).trans (h2 g' hg')⟩
  · refine (hw.rest k ?_).trans (h.far k hk hn)
    rintro rfl
    rcases hown with h1 | ⟨j, o', h1, h2⟩
    · omega
    · exact hn j o' h1 h2

/-- what an operation leaves -/
def OpOk (P : Program) (w0 : World) (A : Anch) (ν : Nm) (s' : St) (v : AV) (r : Result Value) : Prop := ∃ ν' V w', Nm.le ν ν' ∧ WRel P w0 A ν' s' w' ∧ den ν' v = some V ∧ r = .ok V w'

theorem putCells_rel (h : WRel P w0 A ν s w) {i off g : Nat} {vs : List AV} {VS : List Value} {s' : St} (hs : storeCellsA s i off vs = some s') (hg : ν i = some g) (hv : denL ν vs = some VS) :
    WRel P w0 A ν s' (putCells w g off VS) ∧ (storeCells ⟨g, off, none⟩ VS 0).run P w = .ok () (putCells w g off VS) ∧ (∃ t cs, Blk w g t cs ∧ off + VS.length ≤ cs.size) ∧ VS.all plainCell = true ∧ (∀ u ∈ VS, u.oneCell' = true) := by
  unfold storeCellsA at hs
  split at hs
  · rename_i l t c hi
    split at hs
    · rename_i hc
      simp only [Bool.and_eq_true] at hc
      obtain ⟨hc1, hc2⟩ := hc
      have hc1 := Nat.le_of_ble_eq_true hc1
      injection hs with hs
      subst hs
      obtain ⟨L, R, hL, hb, hcap⟩ := h.blk hi hg
      obtain ⟨o1, o2⟩ := denL_one hc2 hv
      have hlen := denL_len hL
      have hvl := denL_len hv
      have hfit : off + VS.length ≤ (L ++ R).length := by simp; omega
      obtain ⟨r1, r2⟩ := run_storeCells (P := P) VS 0 (L ++ R) w off hb (by simpa using hfit) o2
      simp only [Nat.add_zero] at r1 r2
      refine ⟨?_, r1, ⟨t, _, hb, by simpa using hfit⟩, o2, o1⟩
      have hov : overlay (L ++ R) off VS = overlay L off VS ++ R := overlay_append VS L R off (by omega)
      obtain ⟨fz, hfz, hu⟩ := Upd.put hb.lt off VS r2
      refine h.write hi hg ?_ hu (fun x hx => List.mem_cons_of_mem _ hx) (fun _ _ => List.mem_cons_self)
      refine ⟨rfl, hfz, overlay L off VS, R, denL_over off hL hv, by simp [hov], ?_⟩
      cases c with
      | none => exact hcap
      | some c =>
        obtain ⟨cap, inf, h1, h2, h3⟩ := hcap
        exact ⟨cap, inf, h1, h2, by simpa [overlay_len] using h3⟩
    · cases hs
  · cases hs

theorem storeA_rel (h : WRel P w0 A ν s w) {t : TypeId} {i off g : Nat} {v : AV} {V : Value} {s' : St} (hs : storeA P s t i off v = some s') (hg : ν i = some g) (hv : den ν v = some V) :
    ∃ w', WRel P w0 A ν s' w' ∧ (storeVar t ⟨g, off, none⟩ V).run P w = .ok () w' := by
  unfold storeA at hs
  split at hs
  · rename_i n hn
    split at hs
    · rename_i hl
      have hl := Nat.eq_of_beq_eq_true hl
      have hone : (cellsA v).all oneA = true := by
        unfold storeCellsA at hs
        split at hs
        · split at hs
          · rename_i hc
            simp only [Bool.and_eq_true] at hc
            exact hc.2
          · cases hs
        · cases hs
      have hc := cells_den hv hone
      obtain ⟨h1, h2, _⟩ := putCells_rel (P := P) h hs hg hc
      refine ⟨_, h1, ?_⟩
      have hsz : V.cells.size = n := by have := denL_len hc; simp at this; omega
      show (Sem.bind (sizeOf t) _).run P w = _
      rw [run_bind, run_sizeT hn]
      simp only [hsz, ne_eq, not_true, if_false]
      exact h2
    · cases hs
  · cases hs

theorem loadA_rel (h : WRel P w0 A ν s w) {t : TypeId} {i off g : Nat} {v : AV} (hl : loadA P s t i off = some v) (hg : ν i = some g) : ∃ V, den ν v = some V ∧ (loadVar t ⟨g, off, none⟩).run P w = .ok V w := by
  unfold loadA at hl
  split at hl
  · rename_i l t' c hi
    obtain ⟨L, R, hL, hb, _⟩ := h.blk hi hg
    obtain ⟨V, h1, h2⟩ := partA_load (R := R) hL hl
    exact ⟨V, h1, run_loadVar hb h2⟩
  · cases hl

/-- a new block of cells -/
theorem new_rel (h : WRel P w0 A ν s w) {l : List AV} {L : List Value} (t : TypeId) (hl : denL ν l = some L) : WRel P w0 A (ν.set s.n w.heap.size) (newO s (.cells l t none)) (w.alloc (.cells L.toArray t)) := by
  have hk := h.top s.n (Nat.le_refl _)
  refine h.alloc (n' := s.n + 1) hk (by omega) (by omega) ?_
  exact ⟨rfl, noFz0 _, L, [], denL_mono (Nm.le_set hk _) _ _ hl, by simp, rfl⟩

/-- the cells of a slice, or of a string -/
theorem slice_cells (h : WRel P w0 A ν s w) {size : Nat} {x : AV} {X : Value} {cs : List AV} (hx : den ν x = some X) (hc : cellsOfSlice s size x = some cs) {n : Nat} (hn : lenS x = some n) (hlen : cs.length = n * size) :
    ∃ CS, denL ν cs = some CS ∧ CS.length = n * size ∧ (∀ w' : World, (Builtin.lenOf X).run P w' = .ok n w') ∧
      (∀ m, m ≤ n → ∀ w' : World, (∀ g, g < w.heap.size → w'.heap[g]? = w.heap[g]?) → (Builtin.firstCells size m X).run P w' = .ok (CS.take (m * size)).toArray w') := by
  cases x <;> simp only [cellsOfSlice, lenS] at hc hn <;> try (cases hc; done)
  case nslice =>
    simp only [den, Option.some.injEq] at hx hc hn
    subst hx hc hn
    refine ⟨[], rfl, by simp, fun _ => rfl, fun m hm w' _ => ?_⟩
    have : m = 0 := by omega
    subst this
    simp [Builtin.firstCells, pure, Sem.run]
  case slice i off len c =>
    obtain ⟨g, C, hg, hC, hle, rfl⟩ := slice_den hx
    injection hn with hn
    subst hn
    split at hc
    · rename_i l t c' hi
      obtain ⟨L, R, hL, hb, _⟩ := h.blk hi hg
      obtain ⟨h1, h2⟩ := denL_cut hL hc
      refine ⟨_, h1, h2, fun _ => rfl, fun m hm w' hw => ?_⟩
      have hb' : Blk w' g t (L ++ R).toArray := hb.move (hw g hb.lt)
      have hms : m * size ≤ len * size := Nat.mul_le_mul_right _ hm
      refine run_firstCells_some w' size m _ len C _ (by rw [List.length_take, h2]; omega) fun j u hj => ?_
      rw [addr_add, hb'.cell]
      rw [List.getElem?_take] at hj
      split at hj
      · rename_i hjm
        rw [List.getElem?_take] at hj
        split at hj
        · rw [List.getElem?_drop] at hj
          simp only [List.getElem?_toArray]
          rw [List.getElem?_append_left (List.getElem?_eq_some_iff.1 hj).1]
          exact hj
        · cases hj
      · cases hj
    · cases hc
  case str b =>
    simp only [den, Option.some.injEq] at hx hc hn
    subst hx hc hn
    simp only [List.length_map] at hlen
    have hd : ∀ l : List UInt8, denL ν (l.map fun c => AV.int .u8 c.toNat) = some (l.map fun c => Value.int .u8 c.toNat) := fun l => by
      induction l with
      | nil => rfl
      | cons a l ih => exact denL_mk rfl ih
    refine ⟨_, hd b, by rw [List.length_map]; exact hlen, fun _ => rfl, fun m hm w' _ => ?_⟩
    have e : m * size = m := by
      rcases Nat.eq_zero_or_pos b.length with h0 | h0
      · have : m = 0 := by omega
        simp [this]
      · have : size = 1 := by
          have := Nat.eq_of_mul_eq_mul_left h0 (by rw [← hlen]; omega : b.length * size = b.length * 1)
          exact this
        simp [this]
    rw [e]
    simp only [Builtin.firstCells]
    show Result.ok _ w' = _
    congr 1
    apply Array.ext'
    simp [List.extract_eq_take_drop, List.map_take]
theorem src_of (h : WRel P w0 A ν s w) {size : Nat} {tx : TypeId} (hk : srcOk P tx = true) {x : AV} {X : Value} {cs : List AV} (hx : den ν x = some X) (hc : cellsOfSlice s size x = some cs) {n : Nat} (hn : lenS x = some n) (hlen : cs.length = n * size) (hone : cs.all oneA = true) :
    ∃ CS, denL ν cs = some CS ∧ Src P size tx X n CS w := by
  obtain ⟨CS, h1, h2, h3, h4⟩ := slice_cells (P := P) h hx hc hn hlen
  refine ⟨CS, h1, ?_, h3, ?_, ?_, h2, (denL_one hone h1).1⟩
  · unfold srcOk at hk
    split at hk
    · rename_i e he
      exact .inl ⟨e, he⟩
    · rename_i he
      exact .inr he
    · cases hk
  · have := h4 n (Nat.le_refl _) w (fun _ _ => rfl)
    rwa [← h2, List.take_length] at this
  · have := h4 n (Nat.le_refl _) w.drew (fun _ _ => rfl)
    rwa [← h2, List.take_length] at this

/-- a row that has grown -/
theorem fresh_rel (h : WRel P w0 A ν s w) {t tx e : TypeId} {inf : TypeInfo} {z : Value} (ht : P.underlying t = some (.slice e)) (hi : P.info? e = some inf) (hz : inf.zero = some z) (hzs : z.cells.size = inf.size) {base : Option Addr} {sl sc : Nat} {olds : List AV} {OLDS : List Value}
    (ho : denL ν olds = some OLDS) (hol : OLDS.length = sl * inf.size) (hold : (Builtin.firstCells inf.size sl (.slice base sl sc)).run P w.drew = .ok OLDS.toArray w.drew) {Y : Value} {n : Nat} {news : List AV} {NEWS : List Value} (hn : denL ν news = some NEWS) (hs : Src P inf.size tx Y n NEWS w)
    (hg : sc < sl + n) (hm : sl + n ≤ most) (hb : inf.bytes ≤ most) (ty : TypeId) {s1 : St} (hs1 : WRel P w0 A ν s1 w) :
    OpOk P w0 A ν (newN (newO s1 (.cells (olds ++ news) e (some (s1.n + 1))))) (.slice s1.n 0 (sl + n) (.u (s1.n + 1) 0)) ((Builtin.append_ #[t, tx] ty #[.slice base sl sc, Y]).run P w) := by
  have hbytes : (sl + n) * inf.bytes ≤ 140737488355328 := Nat.le_trans (Nat.mul_le_mul hm hb) (by decide)
  have hr := run_append_grow_src (P := P) w t tx ty e inf z ht hi hz base sl sc OLDS hold Y n NEWS hs hg (by unfold most at hm; omega) (growslice_fits hg hbytes)
  have hge := grownCap_ge w (sl + n) sc e
  have hk1 := hs1.top (s1.n + 1) (by omega)
  have hd := (hs1.drew).name (k := s1.n + 1) (n' := s1.n + 2) hk1 (by omega) (by omega) (grownCap w (sl + n) sc e)
  have hk0 : (ν.set (s1.n + 1) (grownCap w (sl + n) sc e)) s1.n = none := by
    simp only [Nm.set]
    rw [if_neg (by omega)]
    exact hs1.top _ (Nat.le_refl _)
  have hle1 := Nm.le_set hk1 (grownCap w (sl + n) sc e)
  have hle2 := Nm.le_set hk0 w.heap.size
  have hcap : (Nm.set (ν.set (s1.n + 1) (grownCap w (sl + n) sc e)) s1.n w.heap.size) (s1.n + 1) = some (grownCap w (sl + n) sc e) := hle2 _ _ (Nm.set_same _ _ _)
  have hw := hd.alloc (k := s1.n) (n' := s1.n + 2) (o := .cells (olds ++ news) e (some (s1.n + 1))) (obj := .cells ((OLDS ++ NEWS).toArray ++ Builtin.zeroCells z.cells (grownCap w (sl + n) sc e - (sl + n))) e (0, 0)) hk0 (by simp) (by omega)
    ⟨rfl, noFz0 _, OLDS ++ NEWS, (Builtin.zeroCells z.cells (grownCap w (sl + n) sc e - (sl + n))).toList, denL_mono hle2 _ _ (denL_mono hle1 _ _ (denL_append ho hn)), by simp, grownCap w (sl + n) sc e, inf, hcap, hi, by
      simp only [Array.size_append, List.size_toArray, List.length_append, size_zeroCells, hol, hs.newsLen, hzs, ← Nat.add_mul]
      congr 1
      omega⟩
  refine ⟨_, .slice (some ⟨w.heap.size, 0, none⟩) (sl + n) (grownCap w (sl + n) sc e), _, hle1.trans hle2, hw, ?_, hr⟩
  simp only [den, capOf, hcap, Nm.set_same]
  rw [if_pos (Nat.zero_le _)]
  simp only [Nat.sub_zero]
  rw [if_pos hge]

theorem appendA_rel (h : WRel P w0 A ν s w) {t tx ty : TypeId} {x y v : AV} {X Y : Value} {s' : St} (ha : appendA P s t tx x y = some (v, s')) (hx : den ν x = some X) (hy : den ν y = some Y) :
    OpOk P w0 A ν s' v ((Builtin.append_ #[t, tx] ty #[X, Y]).run P w) := by
  unfold appendA at ha
  split at ha
  · rename_i e hk ht
    split at ha
    · rename_i xl yl inf hxl hyl hi
      simp only at ha
      split at ha
      · cases ha
      · rename_i news hnews
        split at ha
        · cases ha
        · rename_i hcond
          simp only [Bool.and_eq_true] at hcond
          obtain ⟨⟨⟨⟨⟨c1, c2⟩, c3⟩, c4⟩, c5⟩, c6⟩ := hcond
          have c2 := Nat.le_of_ble_eq_true c2
          have c3 := Nat.le_of_ble_eq_true c3
          have c4 := Nat.le_of_ble_eq_true c4
          have c5 := Nat.eq_of_beq_eq_true c5
          split at c6
          · rename_i z hz
            have c6 := Nat.eq_of_beq_eq_true c6
            obtain ⟨NEWS, hN, hsrc⟩ := src_of (P := P) h hk hy hnews hyl c5 c1
            cases x <;> (try simp only at ha) <;> try (cases ha; done)
            case nslice =>
              simp only [lenS, Option.some.injEq] at hxl
              subst hxl
              simp only [den, Option.some.injEq] at hx
              subst hx
              split at ha
              · rename_i h0
                have h0 := Nat.eq_of_beq_eq_true h0
                subst h0
                simp only [Option.some.injEq, Prod.mk.injEq] at ha
                obtain ⟨rfl, rfl⟩ := ha
                have hN0 : NEWS = [] := List.eq_nil_of_length_eq_zero (by have := hsrc.newsLen; simpa using this)
                subst hN0
                exact ⟨ν, _, w, Nm.le.refl _, h, rfl, run_append_nothing w t tx ty e inf ht hi none 0 0 (Nat.le_refl _) Y hsrc⟩
              · rename_i h0
                have h0 := Nat.ne_of_beq_eq_false h0
                simp only [Nat.zero_add, Option.some.injEq, Prod.mk.injEq] at ha
                obtain ⟨rfl, rfl⟩ := ha
                have := fresh_rel (P := P) h ht hi hz c6 (base := none) (sl := 0) (sc := 0) (olds := []) (OLDS := []) rfl (by simp) (run_firstCells_none _ _ _ _ _) hN hsrc (by omega) (by omega) c3 ty h
                simpa using this
            case slice i off n c =>
              simp only [lenS, Option.some.injEq] at hxl
              subst hxl
              obtain ⟨g, C, hg, hC, hle, rfl⟩ := slice_den hx
              cases c with
              | k C' =>
                simp only [capOf, Option.some.injEq] at hC
                subst hC
                simp only at ha
                split at ha
                · rename_i hfit
                  have hfit := Nat.le_of_ble_eq_true hfit
                  split at ha
                  · rename_i s2 hst
                    simp only [Option.some.injEq, Prod.mk.injEq] at ha
                    obtain ⟨rfl, rfl⟩ := ha
                    obtain ⟨r1, r2, ⟨t', cs, hb, hsz⟩, r4, r5⟩ := putCells_rel (P := P) h hst hg hN
                    have hr := run_append_room_src (P := P) w t tx ty e inf ht hi g off n C' Y yl NEWS hsrc hfit (fun j hj => by rw [hb.cell]; simp; omega) (fun j hj => hb.frozen _ (by omega))
                    rw [setCells_eq] at hr
                    refine ⟨ν, _, _, Nm.le.refl _, r1, ?_, hr⟩
                    simp only [den, hg, capOf]
                    rw [if_pos hfit]
                  · cases ha
                · rename_i hfit
                  have hfit : ¬ n + yl ≤ C' := fun hle => by rw [Nat.ble_eq_true_of_le hle] at hfit; cases hfit
                  split at ha
                  · rename_i olds holds
                    simp only [Option.some.injEq, Prod.mk.injEq] at ha
                    obtain ⟨rfl, rfl⟩ := ha
                    have hol : olds.length = n * inf.size := by
                      simp only [cellsOfSlice] at holds
                      split at holds
                      · exact (cutL_spec holds).2
                      · cases holds
                    obtain ⟨OLDS, o1, o2, _, o4⟩ := slice_cells (P := P) h hx holds (n := n) rfl hol
                    have o5 := o4 n (Nat.le_refl _) w.drew (fun _ _ => rfl)
                    rw [← o2, List.take_length] at o5
                    exact fresh_rel (P := P) h ht hi hz c6 o1 o2 o5 hN hsrc (by omega) c2 c3 ty h
                  · cases ha
              | u c m =>
                simp only at ha
                split at ha
                · rename_i h0
                  have h0 := Nat.eq_of_beq_eq_true h0
                  subst h0
                  simp only [Option.some.injEq, Prod.mk.injEq] at ha
                  obtain ⟨rfl, rfl⟩ := ha
                  have hN0 : NEWS = [] := List.eq_nil_of_length_eq_zero (by have := hsrc.newsLen; simpa using this)
                  subst hN0
                  exact ⟨ν, _, w, Nm.le.refl _, h, hx, run_append_nothing w t tx ty e inf ht hi _ n C hle Y hsrc⟩
                · rename_i h0
                  have h0 := Nat.ne_of_beq_eq_false h0
                  split at ha
                  · rename_i l t' c' hbm hobj
                    simp only [Bool.and_eq_true] at hbm
                    have hoff := Nat.eq_of_beq_eq_true hbm.1
                    have hm0 := Nat.eq_of_beq_eq_true hbm.2
                    subst hoff hm0
                    split at ha
                    · rename_i olds hcc hcut
                      simp only [Bool.and_eq_true] at hcc
                      have hcc1 := Nat.eq_of_beq_eq_true hcc.1
                      have hcc2 := Nat.eq_of_beq_eq_true hcc.2
                      subst hcc1 hcc2
                      simp only [Option.some.injEq, Prod.mk.injEq] at ha
                      obtain ⟨rfl, rfl⟩ := ha
                      obtain ⟨L, R, hL, hb, hcap⟩ := h.blk hobj hg
                      obtain ⟨o1, o2⟩ := denL_cut hL hcut
                      simp only [List.drop_zero] at o1 o2
                      obtain ⟨cap, inf', hcn, hinf', hsz⟩ := hcap
                      simp only [capOf, hcn] at hC
                      rw [if_pos (Nat.zero_le _)] at hC
                      simp only [Nat.sub_zero, Option.some.injEq] at hC
                      subst hC
                      have hkill := h.kill i
                      have holdrun : ∀ w' : World, w'.heap[g]? = w.heap[g]? → (Builtin.firstCells inf.size n (.slice (some ⟨g, 0, none⟩) n cap)).run P w' = .ok (L.take (n * inf.size)).toArray w' := fun w' hw' => by
                        refine run_firstCells_some w' inf.size n _ n cap _ o2 fun j u hj => ?_
                        have hb' : Blk w' g t' (L ++ R).toArray := hb.move hw'
                        rw [addr_add, hb'.cell]
                        rw [List.getElem?_take] at hj
                        split at hj
                        · simp only [Nat.zero_add, List.getElem?_toArray]
                          rw [List.getElem?_append_left (List.getElem?_eq_some_iff.1 hj).1]
                          exact hj
                        · cases hj
                      by_cases hfit : n + yl ≤ cap
                      · -- in place
                        rw [hi] at hinf'
                        injection hinf' with hinf'
                        subst hinf'
                        have hroom : n * inf.size + NEWS.length ≤ (L ++ R).length := by rw [hsz, hsrc.newsLen, ← Nat.add_mul]; exact Nat.mul_le_mul_right _ hfit
                        have hr := run_append_room_src (P := P) w t tx ty t' inf ht hi g 0 n cap Y yl NEWS hsrc hfit (fun j hj => by rw [hb.cell]; simp only [Nat.zero_add]; rw [Option.isSome_iff_exists]; exact ⟨_, by rw [List.getElem?_toArray]; exact List.getElem?_eq_getElem (by omega)⟩) (fun j hj => hb.frozen _ (by simp only [Nat.zero_add, List.size_toArray]; omega))
                        rw [setCells_eq] at hr
                        simp only [Nat.zero_add] at hr
                        have hone := denL_one c1 hN
                        obtain ⟨_, hblk⟩ := run_storeCells (P := P) NEWS 0 (L ++ R) w (n * inf.size) hb (by simpa using hroom) hone.2
                        simp only [Nat.add_zero] at hblk
                        have hgs : w0.heap.size ≤ g := by
                          obtain ⟨g', obj, q1, q2, _⟩ := h.objs i _ hobj
                          rw [hg] at q1
                          injection q1 with q1
                          subst q1
                          exact q2
                        have hno : ∀ j o, (killO s i).h.get j = some o → ν j ≠ some g := fun j o hj e => by
                          simp only [killO] at hj
                          rw [Tr.get_put] at hj
                          split at hj
                          · cases hj
                          · rename_i hne
                            exact hne (h.inj j i o _ hj hobj (by rw [e, hg]))
                        obtain ⟨fz, hfz, hupd⟩ := Upd.put hb.lt (n * inf.size) NEWS hblk
                        have hraw := hkill.raw hno hgs (h.own i _ hobj g hg) hupd
                        have hk1 := hkill.top ((killO s i).n + 1) (by omega)
                        have hd := hraw.name (k := (killO s i).n + 1) (n' := (killO s i).n + 2) hk1 (by omega) (by omega) cap
                        have hk0 : (ν.set ((killO s i).n + 1) cap) (killO s i).n = none := by
                          simp only [Nm.set]
                          rw [if_neg (by omega)]
                          exact hkill.top _ (Nat.le_refl _)
                        have hle1 := Nm.le_set hk1 cap
                        have hle2 := Nm.le_set hk0 g
                        have hcap' : (Nm.set (ν.set ((killO s i).n + 1) cap) (killO s i).n g) ((killO s i).n + 1) = some cap := hle2 _ _ (Nm.set_same _ _ _)
                        have htl : overlay (L ++ R) (n * inf.size) NEWS = (L.take (n * inf.size) ++ NEWS) ++ (L ++ R).drop (n * inf.size + NEWS.length) := by
                          rw [overlay_tail _ _ _ hroom, List.take_append_of_le_length (by rw [← o2, List.length_take]; omega)]
                        have hw := hd.adopt (k := (killO s i).n) (n' := (killO s i).n + 2) (g := g) (o := .cells (olds ++ news) t' (some ((killO s i).n + 1))) hk0 (by simp) (by omega) hupd.here hgs (fun j o hj e => by
                            have hj' : (killO s i).h.get j = some o := hj
                            have : j ≠ (killO s i).n + 1 := fun e' => hkill.named hk1 o (e' ▸ hj')
                            simp only [Nm.set] at e
                            rw [if_neg this] at e
                            exact hno j o hj' e) (h.own i _ hobj g hg)
                          ⟨rfl, hfz, L.take (n * inf.size) ++ NEWS, (L ++ R).drop (n * inf.size + NEWS.length), denL_mono hle2 _ _ (denL_mono hle1 _ _ (denL_append o1 hN)), by simp only [htl], cap, inf, hcap', hi, by
                            simp only [List.size_toArray, overlay_len]
                            exact hsz⟩
                        refine ⟨_, .slice (some ⟨g, 0, none⟩) (n + yl) cap, _, hle1.trans hle2, hw, ?_, hr⟩
                        simp only [den, capOf, hcap', Nm.set_same]
                        rw [if_pos (Nat.zero_le _)]
                        simp only [Nat.sub_zero]
                        rw [if_pos hfit]
                      · exact fresh_rel (P := P) h ht hi hz c6 o1 o2 (holdrun w.drew rfl) hN hsrc (by omega) c2 c3 ty hkill
                    · cases ha
                  · cases ha
          · cases c6
    · cases ha
  · cases ha
end

end Go.Proofs.YtlijlapkhimaoaaGreatDoor
