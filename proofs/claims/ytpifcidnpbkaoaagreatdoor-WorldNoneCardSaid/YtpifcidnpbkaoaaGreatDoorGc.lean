/- The evaluator, 6: rows: what is written, made, appended, copied. No program in sight. -/
import Derived.Test.YtpifcidnpbkaoaaGreatDoorGb
import Derived.Deep.Upon
namespace Go.Proofs.YtpifcidnpbkaoaaGreatDoor
open Go Go.RowKit

theorem overlay_append : ∀ (vs : List Value) (l r : List Value) (off : Nat), off + vs.length ≤ l.length → overlay (l ++ r) off vs = overlay l off vs ++ r
  | [], l, r, off, _ => rfl
  | v :: vs, l, r, off, h => by
    simp only [List.length_cons] at h
    simp only [overlay]
    rw [List.set_append_left _ _ (by omega), overlay_append vs (l.set off v) r (off + 1) (by simp; omega)]
theorem overlay_len : ∀ (vs : List Value) (l : List Value) (off : Nat), (overlay l off vs).length = l.length
  | [], _, _ => rfl
  | v :: vs, l, off => by rw [overlay, overlay_len vs]; simp
theorem overlay_tail : ∀ (vs : List Value) (l : List Value) (off : Nat), off + vs.length ≤ l.length → overlay l off vs = l.take off ++ vs ++ l.drop (off + vs.length)
  | [], l, off, _ => by simp [overlay]
  | v :: vs, l, off, h => by
    simp only [List.length_cons] at h
    rw [overlay, overlay_tail vs _ _ (by simp; omega)]
    have h1 : (l.set off v).take (off + 1) = l.take off ++ [v] := by
      rw [List.take_set, List.take_add_one, List.getElem?_eq_getElem (by omega)]
      simp only [Option.toList_some]
      rw [List.set_append_right _ _ (by rw [List.length_take]; omega)]
      have : off - (l.take off).length = 0 := by rw [List.length_take]; omega
      rw [this]
      simp
    have h2 : (l.set off v).drop (off + 1 + vs.length) = l.drop (off + (vs.length + 1)) := by
      rw [List.drop_set_of_lt (by omega)]
      congr 1
      omega
    rw [h1, h2]
    simp
theorem setCells_eq (b : Nat) : ∀ (vs : List Value) (w : World) (o : Nat), w.setCells b o vs = putCells w b o vs
  | [], _, _ => rfl
  | _ :: vs, _, o => setCells_eq b vs _ (o + 1)

section
variable {P : Program} {w0 w : World} {A : Anch} {ν : Nm} {s : St}

/-- a block turns that no name has any more -/
theorem WRel.raw (h : WRel P w0 A ν s w) {w' : World} {g : Nat} {obj : Obj} (hno : ∀ i o, s.h.get i = some o → ν i ≠ some g) (h0 : w0.heap.size ≤ g) (hown : A.w.heap.size ≤ g ∨ ∃ j o, A.h.get j = some o ∧ A.ν j = some g) (hw : Upd w g obj w') : WRel P w0 A ν s w' := by
  refine ⟨⟨hw.os.trans h.keep.os, hw.tape.trans h.keep.tape, hw.output.trans h.keep.output, by rw [hw.size]; exact h.keep.size, fun k hk hn => ?_⟩, h.top, fun j o' hj => ?_, h.inj, h.ext, h.anc, fun j o' hj hn => ?_, fun k hk hn => ?_, by rw [hw.size]; exact h.big, h.own, h.ctx⟩
  · rw [hw.rest k (by omega)]
    exact h.keep.block k hk hn
  · obtain ⟨g', obj', h1, h2, h3, h4⟩ := h.objs j o' hj
    exact ⟨g', obj', h1, h2, (hw.rest g' fun e => hno j o' hj (by rw [h1, e])).trans h3, h4⟩
  · obtain ⟨⟨o2, h1⟩, h2⟩ := h.same j o' hj hn
    exact ⟨⟨o2, h1⟩, fun g' hg' => (hw.rest g' fun e => hno j o2 h1 (by rw [h.ext _ _ hg', e])).trans (h2 g' hg')⟩
  · refine (hw.rest k ?_).trans (h.far k hk hn)
    rintro rfl
    rcases hown with h1 | ⟨j, o', h1, h2⟩
    · omega
    · exact hn j o' h1 h2

/-- what an operation leaves -/
def OpOk (P : Program) (w0 : World) (A : Anch) (ν : Nm) (s' : St) (v : AV) (r : Result Value) : Prop := ∃ ν' V w', Nm.le ν ν' ∧ WRel P w0 A ν' s' w' ∧ den ν' v = some V ∧ r = .ok V w'

theorem putCells_rel (h : WRel P w0 A ν s w) {i off g : Nat} {vs : List AV} {VS : List Value} {s' : St} (hs : storeCellsA s i off vs = some s') (hg : ν i = some g) (hv : denL ν vs = some VS) :
    WRel P w0 A ν s' (putCells w g off VS) ∧ (storeCells ⟨g, off, none⟩ VS 0).run P w = .ok () (putCells w g off VS) ∧ (∃ t cs, Blk w g t cs ∧ off + VS.length ≤ cs.size) ∧ VS.all plainCell = true ∧ (∀ u ∈ VS, u.oneCell' = true) := by
  unfold storeCellsA at hs
  split at hs
  · rename_i l t c hi
    split at hs
    · rename_i hc
      simp only [Bool.and_eq_true] at hc
      obtain ⟨hc1, hc2⟩ := hc
      have hc1 := Nat.le_of_ble_eq_true hc1
      injection hs with hs
      subst hs
      obtain ⟨L, R, hL, hb, hcap⟩ := h.blk hi hg
      obtain ⟨o1, o2⟩ := denL_one hc2 hv
      have hlen := denL_len hL
      have hvl := denL_len hv
      have hfit : off + VS.length ≤ (L ++ R).length := by simp; omega
      obtain ⟨r1, r2⟩ := run_storeCells (P := P) VS 0 (L ++ R) w off hb (by simpa using hfit) o2
      simp only [Nat.add_zero] at r1 r2
      refine ⟨?_, r1, ⟨t, _, hb, by simpa using hfit⟩, o2, o1⟩
      have hov : overlay (L ++ R) off VS = overlay L off VS ++ R := overlay_append VS L R off (by omega)
      obtain ⟨fz, hfz, hu⟩ := Upd.put hb.lt off VS r2
      refine h.write hi hg ?_ hu (fun x hx => List.mem_cons_of_mem _ hx) (fun _ _ => List.mem_cons_self)
      refine ⟨rfl, hfz, overlay L off VS, R, denL_over off hL hv, by simp [hov], ?_⟩
      cases c with
      | none => exact hcap
      | some c =>
        obtain ⟨cap, inf, h1, h2, h3⟩ := hcap
        exact ⟨cap, inf, h1, h2, by simpa [overlay_len] using h3⟩
    · cases hs
  · cases hs

theorem storeA_rel (h : WRel P w0 A ν s w) {t : TypeId} {i off g : Nat} {v : AV} {V : Value} {s' : St} (hs : storeA P s t i off v = some s') (hg : ν i = some g) (hv : den ν v = some V) :
    ∃ w', WRel P w0 A ν s' w' ∧ (storeVar t ⟨g, off, none⟩ V).run P w = .ok () w' := by
  unfold storeA at hs
  split at hs
  · rename_i n hn
    split at hs
    · rename_i hl
      have hl := Nat.eq_of_beq_eq_true hl
      have hone : (cellsA v).all oneA = true := by
        unfold storeCellsA at hs
        split at hs
        · split at hs
          · rename_i hc
            simp only [Bool.and_eq_true] at hc
            exact hc.2
          · cases hs
        · cases hs
      have hc := cells_den hv hone
      obtain ⟨h1, h2, _⟩ := putCells_rel (P := P) h hs hg hc
      refine ⟨_, h1, ?_⟩
      have hsz : V.cells.size = n := by have := denL_len hc; simp at this; omega
      show (Sem.bind (sizeOf t) _).run P w = _
      rw [run_bind, run_sizeT hn]
      simp only [hsz, ne_eq, not_true, if_false]
      exact h2
    · cases hs
  · cases hs

theorem loadA_rel (h : WRel P w0 A ν s w) {t : TypeId} {i off g : Nat} {v : AV} (hl : loadA P s t i off = some v) (hg : ν i = some g) : ∃ V, den ν v = some V ∧ (loadVar t ⟨g, off, none⟩).run P w = .ok V w := by
  unfold loadA at hl
  split at hl
  · rename_i l t' c hi
    obtain ⟨L, R, hL, hb, _⟩ := h.blk hi hg
    obtain ⟨V, h1, h2⟩ := partA_load (R := R) hL hl
    exact ⟨V, h1, run_loadVar hb h2⟩
  · cases hl

/-- a new block of cells -/
theorem new_rel (h : WRel P w0 A ν s w) {l : List AV} {L : List Value} (t : TypeId) (hl : denL ν l = some L) : WRel P w0 A (ν.set s.n w.heap.size) (newO s (.cells l t none)) (w.alloc (.cells L.toArray t)) := by
  have hk := h.top s.n (Nat.le_refl _)
  refine h.alloc (n' := s.n + 1) hk (by omega) (by omega) ?_
  exact ⟨rfl, noFz0 _, L, [], denL_mono (Nm.le_set hk _) _ _ hl, by simp, rfl⟩

/-- the cells of a slice, or of a string -/
theorem slice_cells (h : WRel P w0 A ν s w) {size : Nat} {x : AV} {X : Value} {cs : List AV} (hx : den ν x = some X) (hc : cellsOfSlice s size x = some cs) {n : Nat} (hn : lenS x = some n) (hlen : cs.length = n * size) :
    ∃ CS, denL ν cs = some CS ∧ CS.length = n * size ∧ (∀ w' : World, (Builtin.lenOf X).run P w' = .ok n w') ∧
      (∀ m, m ≤ n → ∀ w' : World, (∀ g, g < w.heap.size → w'.heap[g]? = w.heap[g]?) → (Builtin.firstCells size m X).run P w' = .ok (CS.take (m * size)).toArray w') := by
  cases x <;> simp only [cellsOfSlice, lenS] at hc hn <;> try (cases hc; done)
  case nslice =>
    simp only [den, Option.some.injEq] at hx hc hn
    subst hx hc hn
    refine ⟨[], rfl, by simp, fun _ => rfl, fun m hm w' _ => ?_⟩
    have : m = 0 := by omega
    subst this
    simp [Builtin.firstCells, pure, Sem.run]
  case slice i off len c =>
    obtain ⟨g, C, hg, hC, hle, rfl⟩ := slice_den hx
    injection hn with hn
    subst hn
    split at hc
    · rename_i l t c' hi
      obtain ⟨L, R, hL, hb, _⟩ := h.blk hi hg
      obtain ⟨h1, h2⟩ := denL_cut hL hc
      refine ⟨_, h1, h2, fun _ => rfl, fun m hm w' hw => ?_⟩
      have hb' : Blk w' g t (L ++ R).toArray := hb.move (hw g hb.lt)
      have hms : m * size ≤ len * size := Nat.mul_le_mul_right _ hm
      refine run_firstCells_some w' size m _ len C _ (by rw [List.length_take, h2]; omega) fun j u hj => ?_
      rw [addr_add, hb'.cell]
      rw [List.getElem?_take] at hj
      split at hj
      · rename_i hjm
        rw [List.getElem?_take] at hj
        split at hj
        · rw [List.getElem?_drop] at hj
          simp only [List.getElem?_toArray]
          rw [List.getElem?_append_left (List.getElem?_eq_some_iff.1 hj).1]
          exact hj
        · cases hj
      · cases hj
    · cases hc
  case tail i off o2 len c m0 =>
    simp only [Option.some.injEq] at hc hn
    subst hc hn
    have hX : ∃ a k, X = .slice (some a) 0 k := by
      simp only [den] at hx
      split at hx
      · split at hx <;> injection hx with hx <;> exact ⟨_, _, hx.symm⟩
      · cases hx
    obtain ⟨a, k, rfl⟩ := hX
    refine ⟨[], rfl, by simp, fun _ => rfl, fun m hm w' _ => ?_⟩
    have : m = 0 := by omega
    subst this
    have := run_firstCells_some (P := P) w' size 0 a 0 k [] (by simp) (fun j u hj => by simp at hj)
    simpa using this
  case str b =>
    simp only [den, Option.some.injEq] at hx hc hn
    subst hx hc hn
    simp only [List.length_map] at hlen
    have hd : ∀ l : List UInt8, denL ν (l.map fun c => AV.int .u8 c.toNat) = some (l.map fun c => Value.int .u8 c.toNat) := fun l => by
      induction l with
      | nil => rfl
      | cons a l ih => exact denL_mk rfl ih
    refine ⟨_, hd b, by rw [List.length_map]; exact hlen, fun _ => rfl, fun m hm w' _ => ?_⟩
    have e : m * size = m := by
      rcases Nat.eq_zero_or_pos b.length with h0 | h0
      · have : m = 0 := by omega
        simp [this]
      · have : size = 1 := by
          have := Nat.eq_of_mul_eq_mul_left h0 (by rw [← hlen]; omega : b.length * size = b.length * 1)
          exact this
        simp [this]
    rw [e]
    simp only [Builtin.firstCells]
    show Result.ok _ w' = _
    congr 1
    apply Array.ext'
    simp [List.extract_eq_take_drop, List.map_take]
theorem src_of (h : WRel P w0 A ν s w) {size : Nat} {tx : TypeId} (hk : srcOk P tx = true) {x : AV} {X : Value} {cs : List AV} (hx : den ν x = some X) (hc : cellsOfSlice s size x = some cs) {n : Nat} (hn : lenS x = some n) (hlen : cs.length = n * size) (hone : cs.all oneA = true) :
    ∃ CS, denL ν cs = some CS ∧ Src P size tx X n CS w := by
  obtain ⟨CS, h1, h2, h3, h4⟩ := slice_cells (P := P) h hx hc hn hlen
  refine ⟨CS, h1, ?_, h3, ?_, ?_, h2, (denL_one hone h1).1⟩
  · unfold srcOk at hk
    split at hk
    · rename_i e he
      exact .inl ⟨e, he⟩
    · rename_i he
      exact .inr he
    · cases hk
  · have := h4 n (Nat.le_refl _) w (fun _ _ => rfl)
    rwa [← h2, List.take_length] at this
  · have := h4 n (Nat.le_refl _) w.drew (fun _ _ => rfl)
    rwa [← h2, List.take_length] at this

/-- a row that has grown -/
theorem fresh_rel (h : WRel P w0 A ν s w) {t tx e : TypeId} {inf : TypeInfo} {z : Value} (ht : P.underlying t = some (.slice e)) (hi : P.info? e = some inf) (hz : inf.zero = some z) (hzs : z.cells.size = inf.size) {base : Option Addr} {sl sc : Nat} {olds : List AV} {OLDS : List Value}
    (ho : denL ν olds = some OLDS) (hol : OLDS.length = sl * inf.size) (hold : (Builtin.firstCells inf.size sl (.slice base sl sc)).run P w.drew = .ok OLDS.toArray w.drew) {Y : Value} {n : Nat} {news : List AV} {NEWS : List Value} (hn : denL ν news = some NEWS) (hs : Src P inf.size tx Y n NEWS w)
    (hg : sc < sl + n) (hm : sl + n ≤ most) (hb : inf.bytes ≤ most) (ty : TypeId) {s1 : St} (hs1 : WRel P w0 A ν s1 w) :
    OpOk P w0 A ν (newN (newO s1 (.cells (olds ++ news) e (some (s1.n + 1))))) (.slice s1.n 0 (sl + n) (.u (s1.n + 1) 0)) ((Builtin.append_ #[t, tx] ty #[.slice base sl sc, Y]).run P w) := by
  have hbytes : (sl + n) * inf.bytes ≤ 140737488355328 := Nat.le_trans (Nat.mul_le_mul hm hb) (by decide)
  have hr := run_append_grow_src (P := P) w t tx ty e inf z ht hi hz base sl sc OLDS hold Y n NEWS hs hg (by unfold most at hm; omega) (growslice_fits hg hbytes)
  have hge := grownCap_ge w (sl + n) sc e
  have hk1 := hs1.top (s1.n + 1) (by omega)
  have hd := (hs1.drew).name (k := s1.n + 1) (n' := s1.n + 2) hk1 (by omega) (by omega) (grownCap w (sl + n) sc e)
  have hk0 : (ν.set (s1.n + 1) (grownCap w (sl + n) sc e)) s1.n = none := by
    simp only [Nm.set]
    rw [if_neg (by omega)]
    exact hs1.top _ (Nat.le_refl _)
  have hle1 := Nm.le_set hk1 (grownCap w (sl + n) sc e)
  have hle2 := Nm.le_set hk0 w.heap.size
  have hcap : (Nm.set (ν.set (s1.n + 1) (grownCap w (sl + n) sc e)) s1.n w.heap.size) (s1.n + 1) = some (grownCap w (sl + n) sc e) := hle2 _ _ (Nm.set_same _ _ _)
  have hw := hd.alloc (k := s1.n) (n' := s1.n + 2) (o := .cells (olds ++ news) e (some (s1.n + 1))) (obj := .cells ((OLDS ++ NEWS).toArray ++ Builtin.zeroCells z.cells (grownCap w (sl + n) sc e - (sl + n))) e (0, 0)) hk0 (by simp) (by omega)
    ⟨rfl, noFz0 _, OLDS ++ NEWS, (Builtin.zeroCells z.cells (grownCap w (sl + n) sc e - (sl + n))).toList, denL_mono hle2 _ _ (denL_mono hle1 _ _ (denL_append ho hn)), by simp, grownCap w (sl + n) sc e, inf, hcap, hi, by
      simp only [Array.size_append, List.size_toArray, List.length_append, size_zeroCells, hol, hs.newsLen, hzs, ← Nat.add_mul]
      congr 1
      omega⟩
  refine ⟨_, .slice (some ⟨w.heap.size, 0, none⟩) (sl + n) (grownCap w (sl + n) sc e), _, hle1.trans hle2, hw, ?_, hr⟩
  simp only [den, capOf, hcap, Nm.set_same]
  rw [if_pos (Nat.zero_le _)]
  simp only [Nat.sub_zero]
  rw [if_pos hge]

theorem appendA_rel (h : WRel P w0 A ν s w) {t tx ty : TypeId} {x y v : AV} {X Y : Value} {s' : St} (ha : appendA P s t tx x y = some (v, s')) (hx : den ν x = some X) (hy : den ν y = some Y) :
    OpOk P w0 A ν s' v ((Builtin.append_ #[t, tx] ty #[X, Y]).run P w) := by
  unfold appendA at ha
  split at ha
  · rename_i e hk ht
    split at ha
    · rename_i xl yl inf hxl hyl hi
      simp only at ha
      split at ha
      · cases ha
      · rename_i news hnews
        split at ha
        · cases ha
        · rename_i hcond
          simp only [Bool.and_eq_true] at hcond
          obtain ⟨⟨⟨⟨⟨c1, c2⟩, c3⟩, c4⟩, c5⟩, c6⟩ := hcond
          have c2 := Nat.le_of_ble_eq_true c2
          have c3 := Nat.le_of_ble_eq_true c3
          have c4 := Nat.le_of_ble_eq_true c4
          have c5 := Nat.eq_of_beq_eq_true c5
          split at c6
          · rename_i z hz
            have c6 := Nat.eq_of_beq_eq_true c6
            obtain ⟨NEWS, hN, hsrc⟩ := src_of (P := P) h hk hy hnews hyl c5 c1
            cases x <;> (try simp only at ha) <;> try (cases ha; done)
            case nslice =>
              simp only [lenS, Option.some.injEq] at hxl
              subst hxl
              simp only [den, Option.some.injEq] at hx
              subst hx
              split at ha
              · rename_i h0
                have h0 := Nat.eq_of_beq_eq_true h0
                subst h0
                simp only [Option.some.injEq, Prod.mk.injEq] at ha
                obtain ⟨rfl, rfl⟩ := ha
                have hN0 : NEWS = [] := List.eq_nil_of_length_eq_zero (by have := hsrc.newsLen; simpa using this)
                subst hN0
                exact ⟨ν, _, w, Nm.le.refl _, h, rfl, run_append_nothing w t tx ty e inf ht hi none 0 0 (Nat.le_refl _) Y hsrc⟩
              · rename_i h0
                have h0 := Nat.ne_of_beq_eq_false h0
                simp only [Nat.zero_add, Option.some.injEq, Prod.mk.injEq] at ha
                obtain ⟨rfl, rfl⟩ := ha
                have := fresh_rel (P := P) h ht hi hz c6 (base := none) (sl := 0) (sc := 0) (olds := []) (OLDS := []) rfl (by simp) (run_firstCells_none _ _ _ _ _) hN hsrc (by omega) (by omega) c3 ty h
                simpa using this
            case slice i off n c =>
              simp only [lenS, Option.some.injEq] at hxl
              subst hxl
              obtain ⟨g, C, hg, hC, hle, rfl⟩ := slice_den hx
              cases c with
              | k C' =>
                simp only [capOf, Option.some.injEq] at hC
                subst hC
                simp only at ha
                split at ha
                · rename_i hfit
                  have hfit := Nat.le_of_ble_eq_true hfit
                  split at ha
                  · rename_i s2 hst
                    simp only [Option.some.injEq, Prod.mk.injEq] at ha
                    obtain ⟨rfl, rfl⟩ := ha
                    obtain ⟨r1, r2, ⟨t', cs, hb, hsz⟩, r4, r5⟩ := putCells_rel (P := P) h hst hg hN
                    have hr := run_append_room_src (P := P) w t tx ty e inf ht hi g off n C' Y yl NEWS hsrc hfit (fun j hj => by rw [hb.cell]; simp; omega) (fun j hj => hb.frozen _ (by omega))
                    rw [setCells_eq] at hr
                    refine ⟨ν, _, _, Nm.le.refl _, r1, ?_, hr⟩
                    simp only [den, hg, capOf]
                    rw [if_pos hfit]
                  · cases ha
                · rename_i hfit
                  have hfit : ¬ n + yl ≤ C' := fun hle => by rw [Nat.ble_eq_true_of_le hle] at hfit; cases hfit
                  split at ha
                  · rename_i olds holds
                    simp only [Option.some.injEq, Prod.mk.injEq] at ha
                    obtain ⟨rfl, rfl⟩ := ha
                    have hol : olds.length = n * inf.size := by
                      simp only [cellsOfSlice] at holds
                      split at holds
                      · exact (cutL_spec holds).2
                      · cases holds
                    obtain ⟨OLDS, o1, o2, _, o4⟩ := slice_cells (P := P) h hx holds (n := n) rfl hol
                    have o5 := o4 n (Nat.le_refl _) w.drew (fun _ _ => rfl)
                    rw [← o2, List.take_length] at o5
                    exact fresh_rel (P := P) h ht hi hz c6 o1 o2 o5 hN hsrc (by omega) c2 c3 ty h
                  · cases ha
              | u c m =>
                simp only at ha
                split at ha
                · rename_i h0
                  have h0 := Nat.eq_of_beq_eq_true h0
                  subst h0
                  simp only [Option.some.injEq, Prod.mk.injEq] at ha
                  obtain ⟨rfl, rfl⟩ := ha
                  have hN0 : NEWS = [] := List.eq_nil_of_length_eq_zero (by have := hsrc.newsLen; simpa using this)
                  subst hN0
                  exact ⟨ν, _, w, Nm.le.refl _, h, hx, run_append_nothing w t tx ty e inf ht hi _ n C hle Y hsrc⟩
                · rename_i h0
                  have h0 := Nat.ne_of_beq_eq_false h0
                  split at ha
                  · rename_i l t' c' hbm hobj
                    simp only [Bool.and_eq_true] at hbm
                    have hoff := Nat.eq_of_beq_eq_true hbm.1
                    have hm0 := Nat.eq_of_beq_eq_true hbm.2
                    subst hoff hm0
                    split at ha
                    · rename_i olds hcc hcut
                      simp only [Bool.and_eq_true] at hcc
                      have hcc1 := Nat.eq_of_beq_eq_true hcc.1
                      have hcc2 := Nat.eq_of_beq_eq_true hcc.2
                      subst hcc1 hcc2
                      simp only [Option.some.injEq, Prod.mk.injEq] at ha
                      obtain ⟨rfl, rfl⟩ := ha
                      obtain ⟨L, R, hL, hb, hcap⟩ := h.blk hobj hg
                      obtain ⟨o1, o2⟩ := denL_cut hL hcut
                      simp only [List.drop_zero] at o1 o2
                      obtain ⟨cap, inf', hcn, hinf', hsz⟩ := hcap
                      simp only [capOf, hcn] at hC
                      rw [if_pos (Nat.zero_le _)] at hC
                      simp only [Nat.sub_zero, Option.some.injEq] at hC
                      subst hC
                      have hkill := h.kill i
                      have holdrun : ∀ w' : World, w'.heap[g]? = w.heap[g]? → (Builtin.firstCells inf.size n (.slice (some ⟨g, 0, none⟩) n cap)).run P w' = .ok (L.take (n * inf.size)).toArray w' := fun w' hw' => by
                        refine run_firstCells_some w' inf.size n _ n cap _ o2 fun j u hj => ?_
                        have hb' : Blk w' g t' (L ++ R).toArray := hb.move hw'
                        rw [addr_add, hb'.cell]
                        rw [List.getElem?_take] at hj
                        split at hj
                        · simp only [Nat.zero_add, List.getElem?_toArray]
                          rw [List.getElem?_append_left (List.getElem?_eq_some_iff.1 hj).1]
                          exact hj
                        · cases hj
                      by_cases hfit : n + yl ≤ cap
                      · -- in place
                        rw [hi] at hinf'
                        injection hinf' with hinf'
                        subst hinf'
                        have hroom : n * inf.size + NEWS.length ≤ (L ++ R).length := by rw [hsz, hsrc.newsLen, ← Nat.add_mul]; exact Nat.mul_le_mul_right _ hfit
                        have hr := run_append_room_src (P := P) w t tx ty t' inf ht hi g 0 n cap Y yl NEWS hsrc hfit (fun j hj => by rw [hb.cell]; simp only [Nat.zero_add]; rw [Option.isSome_iff_exists]; exact ⟨_, by rw [List.getElem?_toArray]; exact List.getElem?_eq_getElem (by omega)⟩) (fun j hj => hb.frozen _ (by simp only [Nat.zero_add, List.size_toArray]; omega))
                        rw [setCells_eq] at hr
                        simp only [Nat.zero_add] at hr
                        have hone := denL_one c1 hN
                        obtain ⟨_, hblk⟩ := run_storeCells (P := P) NEWS 0 (L ++ R) w (n * inf.size) hb (by simpa using hroom) hone.2
                        simp only [Nat.add_zero] at hblk
                        have hgs : w0.heap.size ≤ g := by
                          obtain ⟨g', obj, q1, q2, _⟩ := h.objs i _ hobj
                          rw [hg] at q1
                          injection q1 with q1
                          subst q1
                          exact q2
                        have hno : ∀ j o, (killO s i).h.get j = some o → ν j ≠ some g := fun j o hj e => by
                          simp only [killO] at hj
                          rw [Tr.get_put] at hj
                          split at hj
                          · cases hj
                          · rename_i hne
                            exact hne (h.inj j i o _ hj hobj (by rw [e, hg]))
                        obtain ⟨fz, hfz, hupd⟩ := Upd.put hb.lt (n * inf.size) NEWS hblk
                        have hraw := hkill.raw hno hgs (h.own i _ hobj g hg) hupd
                        have hk1 := hkill.top ((killO s i).n + 1) (by omega)
                        have hd := hraw.name (k := (killO s i).n + 1) (n' := (killO s i).n + 2) hk1 (by omega) (by omega) cap
                        have hk0 : (ν.set ((killO s i).n + 1) cap) (killO s i).n = none := by
                          simp only [Nm.set]
                          rw [if_neg (by omega)]
                          exact hkill.top _ (Nat.le_refl _)
                        have hle1 := Nm.le_set hk1 cap
                        have hle2 := Nm.le_set hk0 g
                        have hcap' : (Nm.set (ν.set ((killO s i).n + 1) cap) (killO s i).n g) ((killO s i).n + 1) = some cap := hle2 _ _ (Nm.set_same _ _ _)
                        have htl : overlay (L ++ R) (n * inf.size) NEWS = (L.take (n * inf.size) ++ NEWS) ++ (L ++ R).drop (n * inf.size + NEWS.length) := by
                          rw [overlay_tail _ _ _ hroom, List.take_append_of_le_length (by rw [← o2, List.length_take]; omega)]
                        have hw := hd.adopt (k := (killO s i).n) (n' := (killO s i).n + 2) (g := g) (o := .cells (olds ++ news) t' (some ((killO s i).n + 1))) hk0 (by simp) (by omega) hupd.here hgs (fun j o hj e => by
                            have hj' : (killO s i).h.get j = some o := hj
                            have : j ≠ (killO s i).n + 1 := fun e' => hkill.named hk1 o (e' ▸ hj')
                            simp only [Nm.set] at e
                            rw [if_neg this] at e
                            exact hno j o hj' e) (h.own i _ hobj g hg)
                          ⟨rfl, hfz, L.take (n * inf.size) ++ NEWS, (L ++ R).drop (n * inf.size + NEWS.length), denL_mono hle2 _ _ (denL_mono hle1 _ _ (denL_append o1 hN)), by simp only [htl], cap, inf, hcap', hi, by
                            simp only [List.size_toArray, overlay_len]
                            exact hsz⟩
                        refine ⟨_, .slice (some ⟨g, 0, none⟩) (n + yl) cap, _, hle1.trans hle2, hw, ?_, hr⟩
                        simp only [den, capOf, hcap', Nm.set_same]
                        rw [if_pos (Nat.zero_le _)]
                        simp only [Nat.sub_zero]
                        rw [if_pos hfit]
                      · exact fresh_rel (P := P) h ht hi hz c6 o1 o2 (holdrun w.drew rfl) hN hsrc (by omega) c2 c3 ty hkill
                    · cases ha
                  · cases ha
          · cases c6
    · cases ha
  · cases ha
end

end Go.Proofs.YtpifcidnpbkaoaaGreatDoor

/- The evaluator, 7: copying, maps. No program in sight. -/
namespace Go.Proofs.YtpifcidnpbkaoaaGreatDoor
open Go Go.RowKit

section
variable {P : Program} {w0 w : World} {A : Anch} {ν : Nm} {s : St}

theorem copyA_rel (h : WRel P w0 A ν s w) {t tx ty : TypeId} {x y v : AV} {X Y : Value} {s' : St} (ha : copyA P s t x y = some (v, s')) (hx : den ν x = some X) (hy : den ν y = some Y) :
    OpOk P w0 A ν s' v ((Builtin.copy_ #[t, tx] ty #[X, Y]).run P w) := by
  unfold copyA at ha
  split at ha
  · rename_i e ht
    split at ha
    · rename_i size xl yl hs hxl hyl
      simp only at ha
      split at ha
      · cases ha
      · rename_i cs hcs
        split at ha
        · cases ha
        · rename_i hlen
          have hlen := Nat.eq_of_beq_eq_true hlen
          obtain ⟨CS, c1, c2, c3, c4⟩ := slice_cells (P := P) h hy hcs hyl hlen
          have hmin : selN (Nat.ble yl xl) yl xl = Nat.min yl xl := by
            cases hb : Nat.ble yl xl with
            | true => exact (Nat.min_eq_left (Nat.le_of_ble_eq_true hb)).symm
            | false => exact (Nat.min_eq_right (by rcases Nat.le_total yl xl with h1 | h1; rw [Nat.ble_eq_true_of_le h1] at hb; cases hb; exact h1)).symm
          rw [hmin] at ha
          have run_ : ∀ (base : Option Addr) (cap : Nat) (k : Unit → World → Result Value), (Builtin.copy_ #[t, tx] ty #[.slice base xl cap, Y]).run P w =
              (match base with
                | some a => ((storeCells a (CS.take (Nat.min yl xl * size)) 0).bind fun _ => pure (goInt (Nat.min yl xl))).run P w
                | none => .ok (goInt (Nat.min yl xl)) w) := fun base cap _ => by
            unfold Builtin.copy_
            simp only [List.getElem?_toArray, List.getElem?_cons_zero, List.getElem?_cons_succ]
            show (Sem.bind (underlying t) _).run P w = _
            rw [run_bind, run_underlying ht]
            simp only []
            show (Sem.bind (Builtin.lenOf Y) _).run P w = _
            rw [run_bind, c3 w]
            show (Sem.bind (sizeOf e) _).run P w = _
            rw [run_bind, run_sizeT hs]
            show (Sem.bind (Builtin.firstCells size (Nat.min yl xl) Y) _).run P w = _
            rw [run_bind, c4 (Nat.min yl xl) (Nat.min_le_left _ _) w (fun _ _ => rfl)]
            cases base <;> rfl
          cases x <;> (try simp only at ha) <;> try (cases ha; done)
          case nslice =>
            simp only [lenS, Option.some.injEq] at hxl
            subst hxl
            simp only [den, Option.some.injEq, Prod.mk.injEq] at hx ha
            subst hx
            obtain ⟨rfl, rfl⟩ := ha
            refine ⟨ν, _, w, Nm.le.refl _, h, ?_, run_ none 0 (fun _ w => .ok undef w)⟩
            simp [den, i64, goInt]
          case slice i off n c =>
            simp only [lenS, Option.some.injEq] at hxl
            subst hxl
            obtain ⟨g, C, hg, hC, hle, rfl⟩ := slice_den hx
            split at ha
            · rename_i s2 hst
              simp only [Option.some.injEq, Prod.mk.injEq] at ha
              obtain ⟨rfl, rfl⟩ := ha
              obtain ⟨r1, r2, _⟩ := putCells_rel (P := P) h hst hg (denL_take _ c1)
              refine ⟨ν, _, _, Nm.le.refl _, r1, rfl, ?_⟩
              rw [run_ (some ⟨g, off, none⟩) C (fun _ w => .ok undef w)]
              simp only []
              rw [run_bind, r2]
              rfl
            · cases ha
    · cases ha
  · cases ha

/-! ### maps -/
theorem fitsKind_den {d : TypeDesc} {v : AV} (h : fitsKind d v = true) : flatKind d = true ∧ oneA v = true := by
  cases d <;> cases v <;> first | (cases h; done) | exact ⟨rfl, rfl⟩
theorem run_check1 {b : Bool} {n : Nat} {t : TypeId} {d : TypeDesc} (hu : P.underlying t = some d) (hd : flatKind d = true) (V : Value) : (Instr.checkKey b (n + 1) t V).run P w = .ok () w := by
  rw [Instr.checkKey]
  show (Sem.bind (underlying t) _).run P w = _
  rw [run_bind, run_underlying hu]
  cases d <;> first | (cases hd; done) | rfl
theorem run_checkFields {b : Bool} {n : Nat} {CS : List Value} {l : List AV} (hl : denL ν l = some CS) : ∀ (fs : List Field) (i : Nat), flatFields P fs i = true → fitsFields P fs (l.drop i) = true →
    (forIn fs PUnit.unit fun f (_ : PUnit) => if f.name ≠ "_" then (part f.type CS.toArray f.offset).bind fun x => (Instr.checkKey b (n + 1) f.type x).bind fun _ => (pure (ForInStep.yield PUnit.unit) : Sem _) else pure (ForInStep.yield PUnit.unit)).run P w = .ok PUnit.unit w
  | [], i, _, _ => rfl
  | f :: fs, i, h1, h2 => by
    unfold flatFields at h1
    simp only [Bool.and_eq_true] at h1
    obtain ⟨⟨⟨a1, a2⟩, a3⟩, a4⟩ := h1
    have a1 := Nat.eq_of_beq_eq_true a1
    have hne : f.name ≠ "_" := by simpa using a2
    rw [List.forIn_cons]
    show (Sem.bind _ _).run P w = _
    rw [run_bind, if_pos hne]
    split at a3
    · rename_i d hd
      cases hdrop : l.drop i with
      | nil => rw [hdrop] at h2; simp [fitsFields] at h2
      | cons v vs =>
        rw [hdrop] at h2
        simp only [fitsFields, Bool.and_eq_true] at h2
        have hli : l[i]? = some v := by
          have : (l.drop i)[0]? = some v := by rw [hdrop]; rfl
          simpa using this
        have hag : isAggT P f.type = some false := by unfold isAggT; rw [hd]; cases d <;> first | rfl | cases a3
        have hp : partA P f.type l f.offset = some v := by unfold partA; rw [hag]; simp only; rw [a1]; exact hli
        obtain ⟨V, _, r⟩ := run_part (P := P) (w := w) hl hp
        rw [run_bind, r]
        simp only []
        rw [run_bind, run_check1 hd a3]
        simp only []
        have hdr : l.drop (i + 1) = vs := by rw [← List.drop_drop, hdrop]; rfl
        exact run_checkFields hl fs (i + 1) a4 (by rw [hdr]; exact h2.2)
    · cases a3
theorem flatPart {e : TypeId} {d : TypeDesc} (hd : P.underlying e = some d) (hf : flatKind d = true) (l : List AV) (i : Nat) : partA P e l i = l[i]? := by
  have hag : isAggT P e = some false := by unfold isAggT; rw [hd]; cases d <;> first | rfl | cases hf
  unfold partA
  rw [hag]
theorem run_checkElems {b : Bool} {n : Nat} {e : TypeId} {d : TypeDesc} {inf : TypeInfo} (hd : P.underlying e = some d) (hf : flatKind d = true) (hi : P.info? e = some inf) (h1 : inf.size = 1) {CS : List Value} {l : List AV} (hl : denL ν l = some CS) : ∀ (m i : Nat), i + m ≤ l.length →
    (forIn (List.range' i m) PUnit.unit fun i (_ : PUnit) => (sizeOf e).bind fun s => (part e CS.toArray (i * s)).bind fun x => (Instr.checkKey b (n + 1) e x).bind fun _ => (pure (ForInStep.yield PUnit.unit) : Sem _)).run P w = .ok PUnit.unit w
  | 0, i, _ => rfl
  | m + 1, i, h => by
    rw [List.range'_succ, List.forIn_cons]
    show (Sem.bind _ _).run P w = _
    rw [run_bind, run_bind, run_sizeOf hi]
    simp only [h1, Nat.mul_one]
    have hp : partA P e l i = some l[i] := by rw [flatPart hd hf]; exact List.getElem?_eq_getElem (by omega)
    obtain ⟨V, _, r⟩ := run_part (P := P) (w := w) hl hp
    rw [run_bind, r]
    simp only []
    rw [run_bind, run_check1 hd hf]
    simp only []
    exact run_checkElems (b := b) (n := n) hd hf hi h1 hl m (i + 1) (by omega)
theorem run_checkKey {b : Bool} {n : Nat} {t : TypeId} {k : AV} {K : Value} (hf : (flatT P t && keyOk P t k) = true) (hk : den ν k = some K) : (Instr.checkKey b (n + 2) t K).run P w = .ok () w := by
  simp only [Bool.and_eq_true] at hf
  obtain ⟨h1, h2⟩ := hf
  unfold flatT at h1
  unfold keyOk at h2
  split at h1
  · rename_i fields hu
    simp only [Bool.and_eq_true] at h1
    rw [hu] at h2
    cases k with
    | agg l =>
      simp only at h2
      obtain ⟨CS, hl, rfl⟩ := agg_den hk
      rw [Instr.checkKey]
      show (Sem.bind (underlying t) _).run P w = _
      rw [run_bind, run_underlying hu]
      show (Sem.bind (forIn fields PUnit.unit _ : Sem _) _).run P w = _
      rw [run_bind, ← Array.forIn_toList]
      have := run_checkFields (P := P) (w := w) (n := n) (b := b) hl fields.toList 0 h1.2 (by simpa using h2)
      simp only [bind] at this ⊢
      rw [this]
      rfl
    | _ => simp [fitsKind] at h2
  · rename_i m e hu
    simp only [Bool.and_eq_true] at h1
    rw [hu] at h2
    cases k with
    | agg l =>
      simp only [Bool.and_eq_true] at h2
      obtain ⟨h1a, h1b⟩ := h1
      split at h1a
      · rename_i s hs
        have h1a := Nat.eq_of_beq_eq_true h1a
        obtain ⟨inf, hi, rfl⟩ := sizeT_spec hs
        split at h1b
        · rename_i d hd
          obtain ⟨CS, hl, rfl⟩ := agg_den hk
          rw [Instr.checkKey]
          show (Sem.bind (underlying t) _).run P w = _
          rw [run_bind, run_underlying hu]
          show (Sem.bind (forIn [0:m] PUnit.unit _ : Sem _) _).run P w = _
          rw [run_bind, Std.Legacy.Range.forIn_eq_forIn_range']
          have := run_checkElems (P := P) (w := w) (n := n) (b := b) hd h1b hi h1a hl m 0 (by rw [Nat.eq_of_beq_eq_true h2.1]; omega)
          simp only [bind] at this ⊢
          have e : Std.Legacy.Range.size [0:m] = m := by simp [Std.Legacy.Range.size]
          rw [e]
          rw [this]
          rfl
        · cases h1b
      · cases h1a
    | _ => simp [fitsKind] at h2
  · rename_i d hd hna hns
    exact run_check1 hns h1 K
  · cases h1

theorem sameBitsA_spec {d : TypeDesc} {x y : AV} (hx : fitsKind d x = true) (hy : fitsKind d y = true) {b : Bool} (hb : sameBitsA x y = b) (n : Nat) : ∀ {t : TypeId}, P.underlying t = some d → eqA P (n + 1) t x y = some b := fun {t} hu => by
  subst hb
  cases d <;> cases x <;> first | (cases hx; done) | skip
  all_goals cases y <;> first | (cases hy; done) | skip
  · simp [eqA, hu, sameBitsA]
  · rename_i k k1 a k2 c
    have h1 := kindEq_spec hx
    have h2 := kindEq_spec hy
    subst h1 h2
    simp only [eqA, hu, sameBitsA]
    have : kindEq k k = true := by cases k <;> rfl
    simp [this]
  · simp [eqA, hu, sameBitsA]
theorem eqFields_flat {n : Nat} {l m : List AV} : ∀ (fs : List Field) (i : Nat), flatFields P fs i = true → fitsFields P fs (l.drop i) = true → fitsFields P fs (m.drop i) = true → eqFieldsA P (eqA P (n + 1)) l m fs = some (sameBitsL (l.drop i) (m.drop i))
  | [], i, _, h2, h3 => by
    have e1 : l.drop i = [] := by cases hl : l.drop i with | nil => rfl | cons v vs => rw [hl] at h2; simp [fitsFields] at h2
    have e2 : m.drop i = [] := by cases hl : m.drop i with | nil => rfl | cons v vs => rw [hl] at h3; simp [fitsFields] at h3
    rw [e1, e2]
    rfl
  | f :: fs, i, h1, h2, h3 => by
    unfold flatFields at h1
    simp only [Bool.and_eq_true] at h1
    obtain ⟨⟨⟨a1, a2⟩, a3⟩, a4⟩ := h1
    have a1 := Nat.eq_of_beq_eq_true a1
    split at a3
    · rename_i d hd
      cases hl : l.drop i with
      | nil => rw [hl] at h2; simp [fitsFields] at h2
      | cons v vs =>
        cases hm : m.drop i with
        | nil => rw [hm] at h3; simp [fitsFields] at h3
        | cons u us =>
          rw [hl] at h2
          rw [hm] at h3
          simp only [fitsFields, Bool.and_eq_true, hd] at h2 h3
          have hli : l[i]? = some v := by have : (l.drop i)[0]? = some v := by rw [hl]; rfl
                                          simpa using this
          have hmi : m[i]? = some u := by have : (m.drop i)[0]? = some u := by rw [hm]; rfl
                                          simpa using this
          have hag : isAggT P f.type = some false := by unfold isAggT; rw [hd]; cases d <;> first | rfl | cases a3
          have hp1 : partA P f.type l f.offset = some v := by unfold partA; rw [hag]; simp only; rw [a1]; exact hli
          have hp2 : partA P f.type m f.offset = some u := by unfold partA; rw [hag]; simp only; rw [a1]; exact hmi
          have hv := sameBitsA_spec (P := P) h2.1 h3.1 rfl n hd
          have ih := eqFields_flat (n := n) fs (i + 1) a4 (by rw [← List.drop_drop, hl]; exact h2.2) (by rw [← List.drop_drop, hm]; exact h3.2)
          rw [← List.drop_drop, hl, ← List.drop_drop, hm] at ih
          unfold eqFieldsA
          have hn : (f.name == "_") = false := by simpa using a2
          rw [hn]
          simp only [hp1, hp2, hv, sameBitsL]
          cases sameBitsA v u with
          | true => exact ih
          | false => rfl
    · cases a3
theorem eqElems_flat {e : TypeId} {d : TypeDesc} (hd : P.underlying e = some d) (hf : flatKind d = true) (l m : List AV) : ∀ (n i : Nat), i + n = l.length → i + n = m.length → l.all (fitsKind d) = true → m.all (fitsKind d) = true →
    eqElemsA P (eqA P 1 e) e 1 l m n i = some (sameBitsL (l.drop i) (m.drop i))
  | 0, i, h1, h2, _, _ => by
    rw [List.drop_eq_nil_of_le (by omega), List.drop_eq_nil_of_le (by omega)]
    rfl
  | n + 1, i, h1, h2, h3, h4 => by
    have hi1 : i < l.length := by omega
    have hi2 : i < m.length := by omega
    unfold eqElemsA
    simp only [Nat.mul_one, flatPart hd hf, List.getElem?_eq_getElem hi1, List.getElem?_eq_getElem hi2]
    have e1 := List.all_eq_true.1 h3 l[i] (List.getElem_mem hi1)
    have e2 := List.all_eq_true.1 h4 m[i] (List.getElem_mem hi2)
    rw [sameBitsA_spec (P := P) e1 e2 rfl 0 hd, List.drop_eq_getElem_cons hi1, List.drop_eq_getElem_cons hi2]
    simp only [sameBitsL]
    cases sameBitsA l[i] m[i] with
    | true => exact eqElems_flat hd hf l m n (i + 1) (by omega) (by omega) h3 h4
    | false => rfl
/-- are two keys one? -/
theorem keyEq_eqA {t : TypeId} {k k' : AV} (hf : (flatT P t && keyOk P t k) = true) (hk' : keyOk P t k' = true) {b : Bool} (h : keyEq k k' = some b) : eqA P 2 t k k' = some b := by
  simp only [Bool.and_eq_true] at hf
  obtain ⟨h1, h2⟩ := hf
  unfold flatT at h1
  unfold keyOk at h2 hk'
  split at h1
  · rename_i fields hu
    simp only [Bool.and_eq_true, Bool.not_eq_true'] at h1
    rw [hu] at h2 hk'
    cases k with
    | agg l =>
      cases k' with
      | agg m =>
        simp only at h2 hk'
        simp only [keyEq, Option.some.injEq] at h
        subst h
        unfold eqA
        simp only [hu, h1.1]
        have := eqFields_flat (P := P) (n := 0) (l := l) (m := m) fields.toList 0 h1.2 (by simpa using h2) (by simpa using hk')
        simpa using this
      | _ => simp [fitsKind] at hk'
    | _ => simp [fitsKind] at h2
  · rename_i m e hu
    simp only [Bool.and_eq_true] at h1
    rw [hu] at h2 hk'
    cases k with
    | agg l =>
      cases k' with
      | agg l' =>
        simp only [Bool.and_eq_true] at h2 hk'
        simp only [keyEq, Option.some.injEq] at h
        subst h
        obtain ⟨h1a, h1b⟩ := h1
        split at h1a
        · rename_i s hs
          have h1a := Nat.eq_of_beq_eq_true h1a
          subst h1a
          split at h1b
          · rename_i d hd
            rw [hd] at h2 hk'
            unfold eqA
            simp only [hu, hs]
            have := eqElems_flat (P := P) hd h1b l l' m 0 (by rw [Nat.eq_of_beq_eq_true h2.1]; omega) (by rw [Nat.eq_of_beq_eq_true hk'.1]; omega) h2.2 hk'.2
            rw [this]
            simp
          · cases h1b
        · cases h1a
      | _ => simp [fitsKind] at hk'
    | _ => simp [fitsKind] at h2
  · rename_i d hd hna hns
    rw [hns] at h2 hk'
    have e2 : fitsKind d k = true := by
      cases d <;> first | (cases h1; done) | exact h2
    have e3 : fitsKind d k' = true := by
      cases d <;> first | (cases h1; done) | exact hk'
    refine sameBitsA_spec (P := P) e2 e3 ?_ 1 hns
    cases d <;> cases k <;> first | (cases e2; done) | skip
    all_goals cases k' <;> first | (cases e3; done) | skip
    · simp only [keyEq, Option.some.injEq] at h; exact h
    · rename_i kk k1 a k2 c
      have q1 := kindEq_spec e2
      have q2 := kindEq_spec e3
      subst q1 q2
      have : kindEq kk kk = true := by cases kk <;> rfl
      simp only [keyEq, this, Option.some.injEq] at h
      simp only [sameBitsA, this, Bool.true_and]
      exact h
    · simp only [keyEq, Option.some.injEq] at h; exact h
  · cases h1

/-- one key, twice: nothing is asked of the tape -/
theorem sameBitsL_spec : ∀ {l m : List AV} {L M : List Value}, sameBitsL l m = true → denL ν l = some L → denL ν m = some M → L = M
  | [], [], L, M, _, h1, h2 => by rw [denL_nil h1, denL_nil h2]
  | a :: x, b :: y, _, _, h, h1, h2 => by
    obtain ⟨V, R, v1, v2, rfl⟩ := denL_cons h1
    obtain ⟨U, S, u1, u2, rfl⟩ := denL_cons h2
    simp only [sameBitsL] at h
    split at h
    · rename_i hs
      rw [sameBitsL_spec h v2 u2]
      congr 1
      cases a <;> cases b <;> simp only [sameBitsA] at hs <;> try (cases hs; done)
      · simp only [den, Option.some.injEq] at v1 u1
        subst v1 u1
        simpa using hs
      · simp only [Bool.and_eq_true, intEq_spec] at hs
        have := kindEq_spec hs.1
        simp only [den, Option.some.injEq] at v1 u1
        subst v1 u1 this
        simpa using hs.2
      · simp only [den, Option.some.injEq] at v1 u1
        subst v1 u1
        rw [bytesEq_spec] at hs
        simpa using hs
    · cases h
  | [], _ :: _, _, _, h, _, _ => by simp [sameBitsL] at h
  | _ :: _, [], _, _, h, _, _ => by simp [sameBitsL] at h
theorem keyEq_same {k k' : AV} {K K' : Value} (h : keyEq k k' = some true) (hk : den ν k = some K) (hk' : den ν k' = some K') : K' = K := by
  cases k <;> cases k' <;> simp only [keyEq] at h <;> try (cases h; done)
  · simp only [Option.some.injEq, den] at h hk hk'
    subst hk hk'
    simp at h ⊢
    exact h.symm
  · split at h
    · rename_i hq
      have := kindEq_spec hq
      simp only [Option.some.injEq, den, intEq_spec] at h hk hk'
      subst hk hk' this
      simp at h ⊢
      exact h.symm
    · cases h
  · simp only [Option.some.injEq, den, bytesEq_spec] at h hk hk'
    subst hk hk'
    simp at h ⊢
    exact h.symm
  · obtain ⟨L, hL, rfl⟩ := agg_den hk
    obtain ⟨M, hM, rfl⟩ := agg_den hk'
    simp only [Option.some.injEq] at h
    rw [sameBitsL_spec h hL hM]
/-- a flat value -/
def flatV : Value → Bool
  | .agg cs => cs.toList.all fun c => match c with | .bool _ => true | .int _ _ => true | .string _ => true | _ => false
  | .bool _ => true
  | .int _ _ => true
  | .string _ => true
  | _ => false
theorem sameBits_self {V : Value} (h : flatV V = true) : Instr.sameBits 10000 V V = true := by
  have one : ∀ (n : Nat) (c : Value), (match c with | .bool _ => true | .int _ _ => true | .string _ => true | _ => false) = true → Instr.sameBits n c c = true := fun n c hc => by
    cases c <;> first | (cases hc; done) | skip
    · cases n <;> simp [Instr.sameBits]
    · cases n <;> simp [Instr.sameBits]
    · rename_i b
      have : (b == b) = true := by show (b.data == b.data) = true; simp
      cases n <;> simp [Instr.sameBits, this]
  cases V <;> first | (cases h; done) | exact one _ _ rfl | skip
  rename_i cs
  show Instr.sameBits (9999 + 1) _ _ = true
  unfold Instr.sameBits
  simp only [beq_self_eq_true, Bool.true_and, List.all_eq_true]
  rintro ⟨x, y⟩ hm
  have hxy : x = y := by
    obtain ⟨i, hi⟩ := List.getElem?_of_mem hm
    rw [List.getElem?_zip_eq_some] at hi
    have := hi.1.symm.trans hi.2
    injection this
  subst hxy
  have hx : x ∈ cs.toList := (List.of_mem_zip hm).1
  simp only [flatV, List.all_eq_true] at h
  exact one _ _ (h x hx)
theorem keyEq_flat {k k' : AV} {K : Value} (h : keyEq k k' = some true) (hk : den ν k = some K) : flatV K = true := by
  cases k <;> cases k' <;> simp only [keyEq] at h <;> try (cases h; done)
  · simp only [den, Option.some.injEq] at hk; subst hk; rfl
  · simp only [den, Option.some.injEq] at hk; subst hk; rfl
  · simp only [den, Option.some.injEq] at hk; subst hk; rfl
  · rename_i l m
    obtain ⟨L, hL, rfl⟩ := agg_den hk
    simp only [Option.some.injEq] at h
    have : ∀ (l m : List AV) (L : List Value), sameBitsL l m = true → denL ν l = some L → (L.all fun c => match c with | .bool _ => true | .int _ _ => true | .string _ => true | _ => false) = true := by
      intro l
      induction l with
      | nil => intro m L _ hL; rw [denL_nil hL]; rfl
      | cons a x ih =>
        intro m L hs hL
        obtain ⟨V, R, v1, v2, rfl⟩ := denL_cons hL
        cases m with
        | nil => simp [sameBitsL] at hs
        | cons b y =>
          simp only [sameBitsL] at hs
          split at hs
          · rename_i hq
            simp only [List.all_cons, Bool.and_eq_true]
            refine ⟨?_, ih y R hs v2⟩
            cases a <;> cases b <;> simp only [sameBitsA] at hq <;> try (cases hq; done)
            all_goals simp only [den, Option.some.injEq] at v1; subst v1; rfl
          · cases hs
    simpa [flatV] using this l m L h hL

/-- what is found -/
def FRes (ν : Nm) (k : AV) (ES : List MapEntry) (i : Nat) : Option (Nat × AV × Nat) → Option (Nat × Value) → Prop
  | none, r => r = none
  | some (j, v, b), r => ∃ m, i ≤ j ∧ ES[j - i]? = some m ∧ r = some (j, m.val) ∧ den ν v = some m.val ∧ m.born = b ∧ (∀ K, den ν k = some K → m.key = K ∧ flatV K = true)
theorem FRes.step {k : AV} {ES : List MapEntry} {m : MapEntry} {i : Nat} {r : Option (Nat × AV × Nat)} {R : Option (Nat × Value)} (h : FRes ν k ES (i + 1) r R) : FRes ν k (m :: ES) i r R := by
  cases r with
  | none => exact h
  | some p =>
    obtain ⟨j, v, b⟩ := p
    obtain ⟨m', h1, h2, h3⟩ := h
    refine ⟨m', by omega, ?_, h3⟩
    have : j - i = (j - (i + 1)) + 1 := by omega
    rw [this]
    simpa using h2
theorem findA_rel {kt : TypeId} {k : AV} {K : Value} (hf : (flatT P kt && keyOk P kt k) = true) (hk : den ν k = some K) : ∀ {es : List (AV × AV × Nat)} {ES : List MapEntry} {i : Nat} {r : Option (Nat × AV × Nat)}, All2 (ERel ν) es ES → findA P kt k es i = some r →
    ∃ R, FRes ν k ES i r R ∧ (Instr.findAsking kt K ES i).run P w = .ok R w ∧ (∀ d, P.underlying kt = some d → flatKind d = true → Instr.findNow d K ES i = some R)
  | [], [], i, r, _, h => by
    simp only [findA, Option.some.injEq] at h
    subst h
    exact ⟨none, rfl, rfl, fun _ _ _ => rfl⟩
  | (k', v, b) :: es, m :: ES, i, r, ⟨⟨e1, e2, e3⟩, hes⟩, h => by
    simp only at e1 e2 e3
    unfold findA at h
    have now_ : ∀ {q : Bool}, keyOk P kt k' = true → keyEq k k' = some q → ∀ d, P.underlying kt = some d → flatKind d = true → Instr.sameNow d K m.key = some q := fun {q} ho hq d hd hfl => by
      have hko : keyOk P kt k = true := by simp only [Bool.and_eq_true] at hf; exact hf.2
      unfold keyOk at hko ho
      rw [hd] at hko ho
      cases d <;> first | (cases hfl; done) | skip
      all_goals
        cases k <;> first | (cases hko; done) | skip
      all_goals
        cases k' <;> first | (cases ho; done) | skip
      · simp only [den, Option.some.injEq] at hk e1
        rw [← hk, ← e1]
        simp only [keyEq, Option.some.injEq] at hq
        simp only [Instr.sameNow, hq]
      · rename_i kk k1 a k2 c
        have q1 := kindEq_spec hko
        have q2 := kindEq_spec ho
        subst q1 q2
        simp only [den, Option.some.injEq] at hk e1
        rw [← hk, ← e1]
        have : kindEq kk kk = true := by cases kk <;> rfl
        simp only [keyEq, this, Option.some.injEq, intEq_spec] at hq
        simp only [Instr.sameNow, if_true, hq]
      · simp only [den, Option.some.injEq] at hk e1
        rw [← hk, ← e1]
        simp only [keyEq, Option.some.injEq, bytesEq_spec] at hq
        simp only [Instr.sameNow, Option.some.injEq]
        rw [← hq]
        rename_i aa bb
        show (aa.toArray == bb.toArray) = _
        simp
    split at h
    · rename_i ho hq
      injection h with h
      subst h
      have heq := eqA_sound (P := P) (w := w) 2 Op.maxDepth kt k k' true K m.key (by decide) (keyEq_eqA hf ho hq) hk e1
      refine ⟨some (i, m.val), ⟨m, Nat.le_refl _, by simp, rfl, e2, e3.symm, fun K' hK' => ?_⟩, ?_, fun d hd hfl => ?_⟩
      · rw [hk] at hK'
        injection hK' with hK'
        subst hK'
        exact ⟨keyEq_same hq hk e1, keyEq_flat hq hk⟩
      · rw [Instr.findAsking]
        show (Sem.bind (Op.equal kt K m.key) _).run P w = _
        rw [run_bind, show (Op.equal kt K m.key).run P w = _ from heq]
        rfl
      · rw [Instr.findNow, now_ ho hq d hd hfl]
    · rename_i ho hq
      obtain ⟨R, h1, h2, h3⟩ := findA_rel hf hk hes h
      have heq := eqA_sound (P := P) (w := w) 2 Op.maxDepth kt k k' false K m.key (by decide) (keyEq_eqA hf ho hq) hk e1
      refine ⟨R, h1.step, ?_, fun d hd hfl => ?_⟩
      · rw [Instr.findAsking]
        show (Sem.bind (Op.equal kt K m.key) _).run P w = _
        rw [run_bind, show (Op.equal kt K m.key).run P w = _ from heq]
        exact h2
      · rw [Instr.findNow, now_ ho hq d hd hfl]
        exact h3 d hd hfl
    · cases h
  | [], _ :: _, _, _, hp, _ => hp.elim
  | _ :: _, [], _, _, hp, _ => hp.elim
theorem run_findKey {kt : TypeId} {k : AV} {K : Value} (hf : (flatT P kt && keyOk P kt k) = true) (hk : den ν k = some K) {es : List (AV × AV × Nat)} {ES : List MapEntry} {r : Option (Nat × AV × Nat)} (he : All2 (ERel ν) es ES) (h : findA P kt k es 0 = some r) :
    ∃ R, FRes ν k ES 0 r R ∧ (Instr.findKey kt K ES).run P w = .ok R w := by
  obtain ⟨R, h1, h2, h3⟩ := findA_rel (P := P) (w := w) hf hk he h
  refine ⟨R, h1, ?_⟩
  unfold Instr.findKey
  simp only [Bool.and_eq_true] at hf
  have hfl := hf.1
  unfold flatT at hfl
  split at hfl
  · rename_i fields hu
    show (Sem.bind (underlying kt) _).run P w = _
    rw [run_bind, run_underlying hu]
    simp only []
    cases ES with
    | nil =>
      have : R = none := by
        cases es with
        | nil => simp only [findA, Option.some.injEq] at h; subst h; exact h1
        | cons _ _ => exact he.elim
      subst this
      rfl
    | cons m ES =>
      have : Instr.findNow (.struct fields) K (m :: ES) 0 = none := by
        rw [Instr.findNow]
        have : Instr.sameNow (.struct fields) K m.key = none := by cases K <;> cases m.key <;> rfl
        rw [this]
      rw [this]
      exact h2
  · rename_i m' e' hu
    show (Sem.bind (underlying kt) _).run P w = _
    rw [run_bind, run_underlying hu]
    simp only []
    cases ES with
    | nil =>
      have : R = none := by
        cases es with
        | nil => simp only [findA, Option.some.injEq] at h; subst h; exact h1
        | cons _ _ => exact he.elim
      subst this
      rfl
    | cons m ES =>
      have : Instr.findNow (.array m' e') K (m :: ES) 0 = none := by
        rw [Instr.findNow]
        have : Instr.sameNow (.array m' e') K m.key = none := by cases K <;> cases m.key <;> rfl
        rw [this]
      rw [this]
      exact h2
  · rename_i d hd hna hns
    show (Sem.bind (underlying kt) _).run P w = _
    rw [run_bind, run_underlying hns]
    simp only []
    rw [h3 d hns hfl]
    rfl
  · cases hfl
end

end Go.Proofs.YtpifcidnpbkaoaaGreatDoor

/- The evaluator, 8: maps. No program in sight. -/
namespace Go.Proofs.YtpifcidnpbkaoaaGreatDoor
open Go Go.RowKit

theorem run_getObj {P : Program} {w : World} {g : Nat} {o : Obj} (h : w.heap[g]? = some o) (hc : ∀ a b c, o ≠ .cells a b c) : (getObj g).run P w = .ok o w := by
  unfold getObj
  cases o <;> first | (exact absurd rfl (hc _ _ _)) | simp only [Sem.run, h]
theorem run_setObj {P : Program} {w : World} {g : Nat} {o : Obj} (o' : Obj) (h : w.heap[g]? = some o) (hc : ∀ a b c, o ≠ .cells a b c) : (setObj g o').run P w = .ok () (w.putObj g o') := by
  unfold setObj
  cases o <;> first | (exact absurd rfl (hc _ _ _)) | (simp only [Sem.run, h]; rfl)

section
variable {P : Program} {w0 w : World} {A : Anch} {ν : Nm} {s : St}

theorem WRel.map_ (h : WRel P w0 A ν s w) {i g : Nat} {es : List (AV × AV × Nat)} {c : Nat} (hi : s.h.get i = some (.map es c)) (hg : ν i = some g) : ∃ arr, w.heap[g]? = some (.map arr c) ∧ All2 (ERel ν) es arr.toList := by
  obtain ⟨obj, h1, h2⟩ := h.at_ hi hg
  cases obj <;> simp only [ORel] at h2 <;> try exact h2.elim
  obtain ⟨rfl, h2⟩ := h2
  exact ⟨_, h1, h2⟩
theorem WRel.putObj (h : WRel P w0 A ν s w) {i g : Nat} {o0 o : AObj} {obj : Obj} (hi : s.h.get i = some o0) (hg : ν i = some g) (hO : ORel P ν o obj) : WRel P w0 A ν (setO s i o) (w.putObj g obj) :=
  h.write hi hg hO (Upd.obj obj (h.lt hi hg)) (fun _ hx => List.mem_cons_of_mem _ hx) (fun _ _ => List.mem_cons_self)

/-- the entries that a map has -/
theorem mapOf_run (h : WRel P w0 A ν s w) {m : AV} {M : Value} {es : List (AV × AV × Nat)} {c : Nat} (hm : den ν m = some M) (ho : mapOf s m = some (es, c)) : ∃ arr : Array MapEntry, All2 (ERel ν) es arr.toList ∧
    ((M = .map none ∧ arr = #[]) ∨ ∃ g, M = .map (some g) ∧ w.heap[g]? = some (.map arr c)) := by
  unfold mapOf at ho
  split at ho
  · simp only [Option.some.injEq, Prod.mk.injEq] at ho
    simp only [den, Option.some.injEq] at hm
    obtain ⟨rfl, rfl⟩ := ho
    subst hm
    exact ⟨#[], trivial, .inl ⟨rfl, rfl⟩⟩
  · rename_i i
    split at ho
    · rename_i es' c' hi
      simp only [Option.some.injEq, Prod.mk.injEq] at ho
      obtain ⟨rfl, rfl⟩ := ho
      obtain ⟨g, hg, rfl⟩ := map_den hm
      obtain ⟨arr, h1, h2⟩ := h.map_ hi hg
      exact ⟨arr, h2, .inr ⟨g, rfl, h1⟩⟩
    · cases ho
  · cases ho

theorem lookupA_rel (h : WRel P w0 A ν s w) {t : TypeId} {m k v : AV} {M K : Value} {ok : Bool} (hl : lookupA P s t m k ok = some v) (hm : den ν m = some M) (hk : den ν k = some K) : ∃ V, den ν v = some V ∧ (Instr.lookup t M K ok).run P w = .ok V w := by
  unfold lookupA at hl
  split at hl
  · rename_i kt e hu
    split at hl
    · rename_i es c hf hes
      obtain ⟨arr, harr, hM⟩ := mapOf_run (P := P) h hm hes
      have hck := fun b => run_checkKey (P := P) (w := w) (ν := ν) (b := b) (n := 9998) hf hk
      have key : ∀ (F : Array MapEntry → Sem Value), (∀ w', (F arr).run P w' = ((Instr.checkKey arr.isEmpty 10000 kt K).bind fun _ => (Instr.findKey kt K arr.toList).bind fun r =>
          match r with
          | some (_, v) => pure (if ok then .tuple #[v, .bool true] else v)
          | none => (zeroValue e).bind fun z => pure (if ok then .tuple #[z, .bool false] else z)).run P w') → ∃ V, den ν v = some V ∧ (F arr).run P w = .ok V w := fun F hF => by
        rw [hF]
        split at hl
        · rename_i j v' b hfd
          obtain ⟨R, h1, h2⟩ := run_findKey (P := P) (w := w) hf hk harr hfd
          obtain ⟨me, _, _, rfl, hv, _⟩ := h1
          injection hl with hl
          subst hl
          refine ⟨if ok then .tuple #[me.val, .bool true] else me.val, ?_, ?_⟩
          · cases ok with
            | true => simp [den, denL, hv]
            | false => exact hv
          · rw [run_bind, hck]
            simp only []
            rw [run_bind, h2]
            rfl
        · rename_i hfd
          obtain ⟨R, h1, h2⟩ := run_findKey (P := P) (w := w) hf hk harr hfd
          simp only [FRes] at h1
          subst h1
          split at hl
          · rename_i z hz
            obtain ⟨Z, hZ, rz⟩ := run_zeroA (P := P) (ν := ν) (w := w) hz
            injection hl with hl
            subst hl
            refine ⟨if ok then .tuple #[Z, .bool false] else Z, ?_, ?_⟩
            · cases ok with
              | true => simp [den, denL, hZ]
              | false => exact hZ
            · rw [run_bind, hck]
              simp only []
              rw [run_bind, h2]
              simp only []
              rw [run_bind, rz]
              rfl
          · cases hl
        · cases hl
      have body : ∀ (arr : Array MapEntry) (w' : World), ((do
          Instr.checkKey arr.isEmpty 10000 kt K
          let (v, ok') ← match ← Instr.findKey kt K arr.toList with
            | some (_, v) => pure (v, true)
            | none => pure (← zeroValue e, false)
          pure (if ok then .tuple #[v, .bool ok'] else v)) : Sem Value).run P w' = ((Instr.checkKey arr.isEmpty 10000 kt K).bind fun _ => (Instr.findKey kt K arr.toList).bind fun r =>
          match r with
          | some (_, v) => pure (if ok then .tuple #[v, .bool true] else v)
          | none => (zeroValue e).bind fun z => pure (if ok then .tuple #[z, .bool false] else z)).run P w' := fun arr w' => by
        simp only [bind]
        rw [run_bind, run_bind]
        split
        · rename_i a w'' _
          rw [run_bind, run_bind]
          split
          · rename_i r w3 _
            cases r with
            | none =>
              simp only [run_bind]
              cases (zeroValue e).run P w3 <;> rfl
            | some p => rfl
          · rfl
        · rfl
      rcases hM with ⟨rfl, rfl⟩ | ⟨g, rfl, hg⟩
      · unfold Instr.lookup
        simp only [bind]
        rw [run_bind, run_underlying hu]
        exact key (fun arr => _) (fun w' => body #[] w')
      · unfold Instr.lookup
        simp only [bind]
        rw [run_bind, run_underlying hu]
        simp only []
        rw [run_bind, run_getObj hg (by simp)]
        simp only []
        rw [run_bind]
        exact key (fun arr => _) (fun w' => body arr w')
    · cases hl
  · cases hl

theorem setEntry_rel {k v : AV} {K V : Value} (hk : den ν k = some K) (hv : den ν v = some V) : ∀ {es : List (AV × AV × Nat)} {ES : List MapEntry} (j : Nat), All2 (ERel ν) es ES → All2 (ERel ν) (setEntry k v es j) (ES.modify j fun e => { e with key := K, val := V })
  | [], [], j, _ => by cases j <;> exact trivial
  | (k', v', b) :: es, m :: ES, 0, h => ⟨⟨hk, hv, h.1.2.2⟩, h.2⟩
  | e :: es, m :: ES, j + 1, h => ⟨h.1, setEntry_rel hk hv j h.2⟩
  | [], _ :: _, _, hp => hp.elim
  | _ :: _, [], _, hp => hp.elim
theorem run_stays {old K : Value} (h : old = K) (hf : flatV K = true) : (Instr.keyThatStays old K).run P w = .ok K w := by
  subst h
  unfold Instr.keyThatStays
  rw [if_pos (sameBits_self hf)]
  rfl
theorem All2.push {es : List (AV × AV × Nat)} {arr : Array MapEntry} (h : All2 (ERel ν) es arr.toList) {e : AV × AV × Nat} {m : MapEntry} (he : ERel ν e m) : All2 (ERel ν) (es ++ [e]) (arr.push m).toList := by
  rw [Array.toList_push]
  exact All2.append h ⟨he, trivial⟩

theorem updateA_rel (h : WRel P w0 A ν s w) {t : TypeId} {m k v : AV} {M K V : Value} {s' : St} (hu : updateA P s t m k v = some s') (hm : den ν m = some M) (hk : den ν k = some K) (hv : den ν v = some V) : ∃ w', WRel P w0 A ν s' w' ∧ (Instr.mapUpdate t M K V).run P w = .ok () w' := by
  unfold updateA at hu
  split at hu
  · rename_i kt e i ht
    obtain ⟨g, hg, rfl⟩ := map_den hm
    split at hu
    · rename_i es c hf hi
      obtain ⟨arr, ho, harr⟩ := h.map_ hi hg
      have hck := fun b => run_checkKey (P := P) (w := w) (ν := ν) (b := b) (n := 9998) hf hk
      have run_ : (Instr.mapUpdate t (.map (some g)) K V).run P w = ((Instr.findKey kt K arr.toList).bind fun r => match r with
          | some (i, _) => (Instr.keyThatStays (((arr[i]?).map (·.key)).getD K) K).bind fun key => setObj g (.map (arr.modify i fun e => { e with key, val := V }) c)
          | none => setObj g (.map (arr.push { key := K, val := V, born := c }) (c + 1))).run P w := by
        unfold Instr.mapUpdate
        simp only [bind]
        rw [run_bind, run_underlying ht]
        simp only []
        rw [run_bind, run_getObj ho (by simp)]
        simp only []
        rw [run_bind, hck]
        rfl
      rw [run_]
      split at hu
      · rename_i j v' b hfd
        injection hu with hu
        subst hu
        obtain ⟨R, h1, h2⟩ := run_findKey (P := P) (w := w) hf hk harr hfd
        obtain ⟨me, _, hme, rfl, _, _, hsame⟩ := h1
        obtain ⟨e1, e2⟩ := hsame K hk
        refine ⟨_, h.putObj hi hg (o := .map (setEntry k v es j) c) (obj := .map (arr.modify j fun e => { e with key := K, val := V }) c) ⟨rfl, ?_⟩, ?_⟩
        · rw [Array.toList_modify]
          exact setEntry_rel hk hv j harr
        · rw [run_bind, h2]
          simp only []
          have : ((arr[j]?).map (·.key)).getD K = K := by
            rw [Nat.sub_zero] at hme
            have hme' : arr[j]? = some me := by simpa using hme
            rw [hme']
            exact e1
          rw [run_bind, run_stays this e2]
          exact run_setObj _ ho (by simp)
      · rename_i hfd
        injection hu with hu
        subst hu
        obtain ⟨R, h1, h2⟩ := run_findKey (P := P) (w := w) hf hk harr hfd
        simp only [FRes] at h1
        subst h1
        refine ⟨_, h.putObj hi hg (o := .map (es ++ [(k, v, c)]) (c + 1)) (obj := .map (arr.push { key := K, val := V, born := c }) (c + 1)) ⟨rfl, All2.push harr ⟨hk, hv, rfl⟩⟩, ?_⟩
        rw [run_bind, h2]
        exact run_setObj _ ho (by simp)
      · cases hu
    · cases hu
  · cases hu

theorem entryA_rel (h : WRel P w0 A ν s w) {t : TypeId} {m k v : AV} {M K : Value} {s' : St} (hu : entryA P s t m k = some (v, s')) (hm : den ν m = some M) (hk : den ν k = some K) : OpOk P w0 A ν s' v ((Instr.mapEntry t M K).run P w) := by
  unfold entryA at hu
  split at hu
  · rename_i kt e i ht
    obtain ⟨g, hg, rfl⟩ := map_den hm
    split at hu
    · rename_i es c z hf hi hz
      obtain ⟨arr, ho, harr⟩ := h.map_ hi hg
      obtain ⟨Z, hZ, rz⟩ := run_zeroA (P := P) (ν := ν) (w := w) hz
      have hck := fun b => run_checkKey (P := P) (w := w) (ν := ν) (b := b) (n := 9998) hf hk
      have run_ : (Instr.mapEntry t (.map (some g)) K).run P w = ((Instr.findKey kt K arr.toList).bind fun r => match r with
          | some (i, v) => (Instr.keyThatStays (((arr[i]?).map (·.key)).getD K) K).bind fun key => (setObj g (.map (arr.modify i fun e => { e with key }) c)).bind fun _ => pure (.tuple #[v, goInt (((arr[i]?).map (·.born)).getD 0)])
          | none => (zeroValue e).bind fun zero => (setObj g (.map (arr.push { key := K, val := zero, born := c }) (c + 1))).bind fun _ => pure (.tuple #[zero, goInt c])).run P w := by
        unfold Instr.mapEntry
        simp only [bind]
        rw [run_bind, run_underlying ht]
        simp only []
        rw [run_bind, run_getObj ho (by simp)]
        simp only []
        rw [run_bind, hck]
        rfl
      rw [run_]
      split at hu
      · rename_i j v' b hfd
        simp only [Option.some.injEq, Prod.mk.injEq] at hu
        obtain ⟨rfl, rfl⟩ := hu
        obtain ⟨R, h1, h2⟩ := run_findKey (P := P) (w := w) hf hk harr hfd
        obtain ⟨me, _, hme, rfl, hv', hb, hsame⟩ := h1
        obtain ⟨e1, e2⟩ := hsame K hk
        rw [Nat.sub_zero] at hme
        have hme' : arr[j]? = some me := by simpa using hme
        refine ⟨ν, .tuple #[me.val, goInt b], _, Nm.le.refl _, h.putObj hi hg (o := .map (setEntry k v' es j) c) (obj := .map (arr.modify j fun e => { e with key := K }) c) ⟨rfl, ?_⟩, by simp [den, denL, hv', i64, goInt], ?_⟩
        · rw [Array.toList_modify]
          have := setEntry_rel hk hv' j harr
          have e : ∀ (L : List MapEntry) (j : Nat), L[j]? = some me → (L.modify j fun e => { e with key := K, val := me.val }) = (L.modify j fun e => { e with key := K }) := fun L => by
            induction L with
            | nil => intro j hj; simp at hj
            | cons m L ih =>
              intro j hj
              cases j with
              | zero => simp at hj; subst hj; rfl
              | succ j => simp only [List.modify_succ_cons]; rw [ih j (by simpa using hj)]
          rw [e arr.toList j hme] at this
          exact this
        · rw [run_bind, h2]
          simp only []
          have : ((arr[j]?).map (·.key)).getD K = K := by rw [hme']; exact e1
          rw [run_bind, run_stays this e2]
          simp only []
          rw [run_bind, run_setObj _ ho (by simp)]
          simp only [hme', Option.map_some, Option.getD_some, hb]
          rfl
      · rename_i hfd
        simp only [Option.some.injEq, Prod.mk.injEq] at hu
        obtain ⟨rfl, rfl⟩ := hu
        obtain ⟨R, h1, h2⟩ := run_findKey (P := P) (w := w) hf hk harr hfd
        simp only [FRes] at h1
        subst h1
        refine ⟨ν, .tuple #[Z, goInt c], _, Nm.le.refl _, h.putObj hi hg (o := .map (es ++ [(k, z, c)]) (c + 1)) (obj := .map (arr.push { key := K, val := Z, born := c }) (c + 1)) ⟨rfl, All2.push harr ⟨hk, hZ, rfl⟩⟩, by simp [den, denL, hZ, i64, goInt], ?_⟩
        rw [run_bind, h2]
        simp only []
        rw [run_bind, rz]
        simp only []
        rw [run_bind, run_setObj _ ho (by simp)]
        rfl
      · cases hu
    · cases hu
  · cases hu

theorem putBorn_rel {v : AV} {V : Value} {b : Nat} (hv : den ν v = some V) : ∀ {es es' : List (AV × AV × Nat)} {ES : List MapEntry}, All2 (ERel ν) es ES → putBorn v b es = some es' →
    ∃ j, ES.findIdx? (fun e => (e.born : Int) == (b : Int)) = some j ∧ All2 (ERel ν) es' (ES.modify j fun e => { e with val := V })
  | [], _, _, _, h => by simp [putBorn] at h
  | (k, v', b') :: es, es', [], hp, _ => hp.elim
  | (k, v', b') :: es, es', m :: ES, hp, h => by
    simp only [putBorn] at h
    have hb : b' = m.born := hp.1.2.2
    split at h
    · rename_i hq
      have hq := Nat.eq_of_beq_eq_true hq
      injection h with h
      subst h
      refine ⟨0, ?_, ⟨hp.1.1, hv, hp.1.2.2⟩, hp.2⟩
      rw [List.findIdx?_cons]
      have : ((m.born : Int) == (b : Int)) = true := by rw [← hb, hq]; simp
      rw [this]
      rfl
    · rename_i hq
      have hq := Nat.ne_of_beq_eq_false hq
      split at h
      · rename_i r hr
        injection h with h
        subst h
        obtain ⟨j, h1, h2⟩ := putBorn_rel hv hp.2 hr
        refine ⟨j + 1, ?_, hp.1, h2⟩
        rw [List.findIdx?_cons]
        have : ((m.born : Int) == (b : Int)) = false := by rw [← hb]; simp; omega
        rw [this, h1]
        rfl
      · cases h
theorem entryStoreA_rel (h : WRel P w0 A ν s w) {t : TypeId} {m b v : AV} {M B V : Value} {s' : St} (hu : entryStoreA s m b v = some s') (hm : den ν m = some M) (hb : den ν b = some B) (hv : den ν v = some V) : ∃ w', WRel P w0 A ν s' w' ∧ (Instr.entryStore t M B V).run P w = .ok () w' := by
  unfold entryStoreA at hu
  split at hu
  · rename_i i n hn
    obtain ⟨g, hg, rfl⟩ := map_den hm
    obtain ⟨kk, rfl⟩ := natOf_spec hn
    simp only [den, Option.some.injEq] at hb
    subst hb
    split at hu
    · rename_i es c hi
      obtain ⟨arr, ho, harr⟩ := h.map_ hi hg
      split at hu
      · rename_i es' hp
        injection hu with hu
        subst hu
        obtain ⟨j, h1, h2⟩ := putBorn_rel hv harr hp
        have h1' : arr.findIdx? (fun e => (e.born : Int) == (n : Int)) = some j := by
          have := List.findIdx?_toArray (p := fun e : MapEntry => (e.born : Int) == (n : Int)) (l := arr.toList)
          rw [Array.toArray_toList] at this
          exact this.trans h1
        refine ⟨_, h.putObj hi hg (o := .map es' c) (obj := .map (arr.modify j fun e => { e with val := V }) c) ⟨rfl, by rw [Array.toList_modify]; exact h2⟩, ?_⟩
        unfold Instr.entryStore
        simp only [bind]
        rw [run_bind, run_getObj ho (by simp)]
        simp only []
        rw [run_bind]
        show (match arr.findIdx? (fun e => (e.born : Int) == (n : Int)) with | some i => _ | none => _ : Sem Unit).run P w = _
        rw [h1']
        exact run_setObj _ ho (by simp)
      · cases hu
    · cases hu
  · cases hu
theorem deleteA_rel (h : WRel P w0 A ν s w) {t tx ty : TypeId} {m k : AV} {M K : Value} {s' : St} (hu : deleteA P s t m k = some s') (hm : den ν m = some M) (hk : den ν k = some K) : OpOk P w0 A ν s' undA ((Builtin.delete_ #[t, tx] ty #[M, K]).run P w) := by
  unfold deleteA at hu
  split at hu
  · rename_i kt e ht
    split at hu
    · rename_i hf
      injection hu with hu
      subst hu
      simp only [den, Option.some.injEq] at hm
      subst hm
      refine ⟨ν, .tuple #[], w, Nm.le.refl _, h, rfl, ?_⟩
      unfold Builtin.delete_
      simp only [List.getElem?_toArray, List.getElem?_cons_zero, List.getElem?_cons_succ, bind]
      rw [run_bind, run_underlying ht]
      simp only []
      rw [run_bind, run_checkKey (n := 9998) hf hk]
      rfl
    · cases hu
  · rename_i kt e i ht
    obtain ⟨g, hg, rfl⟩ := map_den hm
    split at hu
    · rename_i es c hf hi
      obtain ⟨arr, ho, harr⟩ := h.map_ hi hg
      have hck := fun b => run_checkKey (P := P) (w := w) (ν := ν) (b := b) (n := 9998) hf hk
      have run_ : (Builtin.delete_ #[t, tx] ty #[.map (some g), K]).run P w = ((Instr.findKey kt K arr.toList).bind fun r => match r with
          | some (i, _) => (setObj g (.map (arr.eraseIdxIfInBounds i) c)).bind fun _ => pure (.tuple #[])
          | none => (setObj g (.map arr c)).bind fun _ => pure (.tuple #[])).run P w := by
        unfold Builtin.delete_
        simp only [List.getElem?_toArray, List.getElem?_cons_zero, List.getElem?_cons_succ, bind]
        rw [run_bind, run_underlying ht]
        simp only []
        rw [run_bind, run_getObj ho (by simp)]
        simp only []
        rw [run_bind, hck]
        rfl
      rw [run_]
      split at hu
      · rename_i j v' b hfd
        injection hu with hu
        subst hu
        obtain ⟨R, h1, h2⟩ := run_findKey (P := P) (w := w) hf hk harr hfd
        obtain ⟨me, _, hme, rfl, _⟩ := h1
        refine ⟨ν, .tuple #[], _, Nm.le.refl _, h.putObj hi hg (o := .map (es.eraseIdx j) c) (obj := .map (arr.eraseIdxIfInBounds j) c) ⟨rfl, ?_⟩, rfl, ?_⟩
        · have e : ∀ {es : List (AV × AV × Nat)} {ES : List MapEntry} (j : Nat), All2 (ERel ν) es ES → All2 (ERel ν) (es.eraseIdx j) (ES.eraseIdx j) := fun {es} => by
            induction es with
            | nil => intro ES j h; cases ES with | nil => cases j <;> exact trivial | cons _ _ => exact h.elim
            | cons x es ih =>
              intro ES j h
              cases ES with
              | nil => exact h.elim
              | cons y ES =>
                cases j with
                | zero => exact h.2
                | succ j => exact ⟨h.1, ih j h.2⟩
          have hlt : j < arr.size := by
            rw [Nat.sub_zero] at hme
            have := (List.getElem?_eq_some_iff.1 hme).1
            simpa using this
          unfold Array.eraseIdxIfInBounds
          rw [dif_pos hlt, Array.toList_eraseIdx]
          exact e j harr
        · rw [run_bind, h2]
          simp only []
          rw [run_bind, run_setObj _ ho (by simp)]
          rfl
      · rename_i hfd
        injection hu with hu
        subst hu
        obtain ⟨R, h1, h2⟩ := run_findKey (P := P) (w := w) hf hk harr hfd
        simp only [FRes] at h1
        subst h1
        refine ⟨ν, .tuple #[], _, Nm.le.refl _, h.putObj hi hg (o := .map es c) (obj := .map arr c) ⟨rfl, harr⟩, rfl, ?_⟩
        rw [run_bind, h2]
        simp only []
        rw [run_bind, run_setObj _ ho (by simp)]
        rfl
      · cases hu
    · cases hu
  · cases hu

/-! ### walks over maps -/
theorem WRel.iter_ (h : WRel P w0 A ν s w) {i g : Nat} {m : Option Nat} {since stepped : Nat} {seen : List Nat} (hi : s.h.get i = some (.iter m since seen stepped)) (hg : ν i = some g) : ∃ m' sn, w.heap[g]? = some (.mapIter m' since sn stepped) ∧ optN ν m m' ∧ sn.toList = seen := by
  obtain ⟨obj, h1, h2⟩ := h.at_ hi hg
  cases obj <;> simp only [ORel] at h2 <;> try exact h2.elim
  obtain ⟨h3, rfl, h4, rfl⟩ := h2
  exact ⟨_, _, h1, h3, h4⟩
theorem All2.filter {α β : Type} {R : α → β → Prop} {p : α → Bool} {q : β → Bool} (hpq : ∀ a b, R a b → p a = q b) : ∀ {l : List α} {m : List β}, All2 R l m → All2 R (l.filter p) (m.filter q)
  | [], [], _ => trivial
  | a :: l, b :: m, h => by
    rw [List.filter_cons, List.filter_cons, hpq a b h.1]
    split
    · exact ⟨h.1, All2.filter hpq h.2⟩
    · exact All2.filter hpq h.2
  | [], _ :: _, hp => hp.elim
  | _ :: _, [], hp => hp.elim
theorem All2.all {α β : Type} {R : α → β → Prop} {p : α → Bool} {q : β → Bool} (hpq : ∀ a b, R a b → p a = q b) : ∀ {l : List α} {m : List β}, All2 R l m → l.all p = m.all q
  | [], [], _ => rfl
  | a :: l, b :: m, h => by rw [List.all_cons, List.all_cons, hpq a b h.1, All2.all hpq h.2]
  | [], _ :: _, hp => hp.elim
  | _ :: _, [], hp => hp.elim
theorem any_beq (l : List Nat) (b : Nat) : l.any (Nat.beq b) = l.contains b := by
  induction l with
  | nil => rfl
  | cons x l ih =>
    rw [List.any_cons, List.contains_cons, ih]
    congr 1
    rw [Bool.eq_iff_iff]
    simp [Nat.beq_eq]

theorem rangeA_rel (h : WRel P w0 A ν s w) {t : TypeId} {x v : AV} {X : Value} {s' : St} (hu : rangeA P s t x = some (v, s')) (hx : den ν x = some X) : OpOk P w0 A ν s' v ((Instr.range t X).run P w) := by
  have hk := h.top s.n (Nat.le_refl _)
  unfold rangeA at hu
  split at hu
  · rename_i kt e ht
    simp only [Option.some.injEq, Prod.mk.injEq] at hu
    obtain ⟨rfl, rfl⟩ := hu
    simp only [den, Option.some.injEq] at hx
    subst hx
    have hw := h.alloc (n' := s.n + 1) (o := .iter none 0 [] 0) (obj := .mapIter none 0 #[] 0) hk (by omega) (by omega) ⟨rfl, rfl, rfl, rfl⟩
    refine ⟨_, .pointer (some ⟨w.heap.size, 0, none⟩), _, Nm.le_set hk _, hw, by simp only [den, Nm.set_same], ?_⟩
    unfold Instr.range
    simp only [bind]
    rw [run_bind, run_underlying ht]
    rfl
  · rename_i kt e i ht
    split at hu
    · rename_i es c hi
      simp only [Option.some.injEq, Prod.mk.injEq] at hu
      obtain ⟨rfl, rfl⟩ := hu
      obtain ⟨g, hg, rfl⟩ := map_den hx
      obtain ⟨arr, ho, harr⟩ := h.map_ hi hg
      have hw := h.alloc (n' := s.n + 1) (o := .iter (some i) c [] c) (obj := .mapIter (some g) c #[] c) hk (by omega) (by omega) ⟨⟨g, Nm.le_set hk _ _ _ hg, rfl⟩, rfl, rfl, rfl⟩
      refine ⟨_, .pointer (some ⟨w.heap.size, 0, none⟩), _, Nm.le_set hk _, hw, by simp only [den, Nm.set_same], ?_⟩
      unfold Instr.range
      simp only [bind]
      rw [run_bind, run_underlying ht]
      simp only []
      rw [run_bind, run_getObj ho (by simp)]
      rfl
    · cases hu
  · cases hu
end

end Go.Proofs.YtpifcidnpbkaoaaGreatDoor

/- The evaluator, 9: operations that look at nothing but their operands; that read. No program in sight. -/
namespace Go.Proofs.YtpifcidnpbkaoaaGreatDoor
open Go Go.RowKit

theorem lastL_eq : ∀ l : List Nat, lastL l = l.getLast?
  | [] => rfl
  | [x] => rfl
  | x :: y :: l => by
    show lastL (y :: l) = _
    rw [lastL_eq (y :: l)]
    simp [List.getLast?_cons_cons]

section
variable {P : Program} {w0 w : World} {A : Anch} {ν : Nm} {s : St}

/-- all steps that a walk may do -/
theorem nextA_rel (h : WRel P w0 A ν s w) {it : AV} {IT : Value} {l : List (AV × St)} (hn : nextA s it = some l) (hi : den ν it = some IT) (ty : TypeId) : ∃ p ∈ l, OpOk P w0 A ν p.2 p.1 ((Instr.next IT false ty).run P w) := by
  unfold nextA at hn
  split at hn
  · rename_i i
    obtain ⟨g, hg, rfl⟩ := ptr_den hi
    split at hn
    · rename_i since seen stepped hit
      obtain ⟨m', sn, ho, hm, _⟩ := h.iter_ hit hg
      simp only [optN] at hm
      subst hm
      injection hn with hn
      subst hn
      refine ⟨_, List.mem_singleton.2 rfl, ν, .tuple #[.bool false], w, Nm.le.refl _, h, rfl, ?_⟩
      unfold Instr.next
      simp only [bind]
      rw [run_bind, run_getObj ho (by simp)]
      rfl
    · rename_i m since seen stepped hit
      obtain ⟨m', sn, ho, hm, hsn⟩ := h.iter_ hit hg
      obtain ⟨gm, hgm, rfl⟩ := hm
      split at hn
      · rename_i es clock hmap
        obtain ⟨arr, hom, harr⟩ := h.map_ hmap hgm
        split at hn
        · cases hn
        · rename_i hc
          simp only [Bool.and_eq_true] at hc
          have hcl := Nat.eq_of_beq_eq_true hc.1
          subst hcl
          have hborn : ∀ x ∈ arr.toList, x.born < clock := fun x hx => by
            have : (arr.toList.all fun m => Nat.ble (m.born + 1) clock) = true := by
              rw [← All2.all (p := fun e : AV × AV × Nat => Nat.ble (e.2.2 + 1) clock) (fun a b hab => by rw [hab.2.2]) harr]
              exact hc.2
            have := List.all_eq_true.1 this x hx
            exact Nat.le_of_ble_eq_true this
          have hcond : (!sn.isEmpty && !arr.isEmpty && arr.all fun x => decide (x.born ≥ clock)) = false := by
            cases hL : arr.toList with
            | nil =>
              have : arr.isEmpty = true := by simpa using hL
              simp [this]
            | cons x L =>
              have hx := hborn x (by rw [hL]; simp)
              have : (arr.all fun x => decide (x.born ≥ clock)) = false := by
                rw [← Array.all_toList, hL, List.all_cons]
                have : decide (x.born ≥ clock) = false := by simp; omega
                rw [this]
                rfl
              simp [this]
          have hleft := All2.filter (p := fun e : AV × AV × Nat => !seen.any (Nat.beq e.2.2)) (q := fun e : MapEntry => !sn.contains e.born) (fun a b hab => by
            rw [any_beq, hab.2.2, ← hsn, List.contains_eq_mem]; simp [Array.contains_eq_mem]) harr
          have run0 : (Instr.next (.pointer (some ⟨g, 0, none⟩)) false ty).run P w = (Sem.run P (do
              let left := arr.filter fun e : MapEntry => !sn.contains e.born
              let old := left.filter fun e : MapEntry => decide (e.born < since)
              let new := left.filter fun e : MapEntry => decide (e.born ≥ since)
              let candidates := (if old.isEmpty then #[none] else #[]) ++ (old ++ new).map some
              match candidates[← choose (.mapNext candidates.size)]? with
              | some (some e) =>
                setObj g (.mapIter (some gm) since (sn.push e.born) clock)
                pure (.tuple #[.bool true, e.key, e.val])
              | some none => pure (.tuple #[.bool false])
              | none => stuck "Next: no such candidate") w) := by
            unfold Instr.next
            simp only [bind]
            rw [run_bind, run_getObj ho (by simp)]
            simp only []
            rw [run_bind, run_getObj hom (by simp)]
            simp only [hcond]
            rfl
          rw [run0]
          clear run0
          obtain ⟨L, hL⟩ : ∃ L, L = arr.filter fun e : MapEntry => !sn.contains e.born := ⟨_, rfl⟩
          have hleft' : All2 (ERel ν) (es.filter fun e : AV × AV × Nat => !seen.any (Nat.beq e.2.2)) L.toList := by
            rw [hL, Array.toList_filter]
            exact hleft
          rw [← hL]
          simp only at hn
          split at hn
          · rename_i hnil
            rw [hnil] at hleft'
            have : L = #[] := by
              cases hLL : L.toList with
              | nil => exact Array.toList_eq_nil_iff.1 hLL
              | cons x y => rw [hLL] at hleft'; exact hleft'.elim
            subst this
            injection hn with hn
            subst hn
            refine ⟨_, List.mem_singleton.2 rfl, ν, .tuple #[.bool false], w, Nm.le.refl _, h.kill _, rfl, ?_⟩
            simp [choose, Sem.run, Question.forced]
          · rename_i hne
            split at hn
            · rename_i hold
              injection hn with hn
              subst hn
              have holdL : ∀ x ∈ L.toList, x.born < since := fun x hx => by
                have : (L.toList.all fun m => Nat.ble (m.born + 1) since) = true := by
                  rw [← All2.all (p := fun e : AV × AV × Nat => Nat.ble (e.2.2 + 1) since) (fun a b hab => by rw [hab.2.2]) hleft']
                  exact hold
                exact Nat.le_of_ble_eq_true (List.all_eq_true.1 this x hx)
              have f1 : (L.filter fun e : MapEntry => decide (e.born < since)) = L := by
                rw [Array.filter_eq_self]
                intro a ha
                simpa using holdL a (by simpa using ha)
              have f2 : (L.filter fun e : MapEntry => decide (e.born ≥ since)) = #[] := by
                rw [Array.filter_eq_empty_iff]
                intro a ha
                have := holdL a (by simpa using ha)
                simp
                omega
              have hlen := hleft'.length
              have hpos : 0 < L.size := by
                rcases Nat.eq_zero_or_pos L.size with h0 | h0
                · exfalso
                  have : (es.filter fun e : AV × AV × Nat => !seen.any (Nat.beq e.2.2)) = [] := List.eq_nil_of_length_eq_zero (by rw [hlen]; simpa using h0)
                  exact hne this
                · exact h0
              have hemp : L.isEmpty = false := by
                rw [Array.isEmpty_eq_false_iff_exists_mem]
                exact ⟨L[0], Array.getElem_mem hpos⟩
              have goal_ : ∀ (w1 : World), WRel P w0 A ν s w1 → w1.heap = w.heap → ∀ j, j < L.size → ∃ p ∈ ((es.filter fun e : AV × AV × Nat => !seen.any (Nat.beq e.2.2)).map fun e => (AV.tup [.bool true, e.1, e.2.1], setO s i (.iter (some m) since (seen ++ [e.2.2]) clock))),
                  OpOk P w0 A ν p.2 p.1 ((match (L.map some)[j]? with
                  | some (some e) => (setObj g (.mapIter (some gm) since (sn.push e.born) clock)).bind fun _ => pure (.tuple #[.bool true, e.key, e.val])
                  | some none => pure (.tuple #[.bool false])
                  | none => stuck "Next: no such candidate" : Sem Value).run P w1) := fun w1 h1 hw1 j hj => by
                obtain ⟨e, he, hrel⟩ := All2.get hleft' (i := j) (b := L[j]) (by simp [hj])
                refine ⟨_, List.mem_map.2 ⟨e, List.mem_of_getElem? he, rfl⟩, ν, .tuple #[.bool true, L[j].key, L[j].val], _, Nm.le.refl _, h1.putObj hit hg (o := .iter (some m) since (seen ++ [e.2.2]) clock) (obj := .mapIter (some gm) since (sn.push L[j].born) clock) ⟨⟨gm, hgm, rfl⟩, rfl, by rw [Array.toList_push, hsn, hrel.2.2], rfl⟩, ?_, ?_⟩
                · simp [den, denL, hrel.1, hrel.2.1]
                · have : (L.map some)[j]? = some (some L[j]) := by simp [hj]
                  rw [this]
                  simp only []
                  rw [run_bind, run_setObj _ (by rw [hw1]; exact ho) (by simp)]
                  rfl
              simp only [f1, f2, hemp, Bool.false_eq_true, if_false, Array.append_empty, Array.empty_append, Array.size_map, bind]
              rw [run_bind]
              unfold choose
              simp only [Sem.run]
              by_cases hf : Question.forced (.mapNext L.size) = true
              · rw [if_pos hf]
                simp only [Sem.run]
                exact goal_ w h rfl 0 hpos
              · rw [if_neg hf]
                simp only [Sem.run]
                exact goal_ _ h.drew rfl _ (Nat.mod_lt _ hpos)
            · cases hn
      · cases hn
    · cases hn
  · cases hn

theorem findBorn_rel {b : Nat} {k v : AV} : ∀ {es : List (AV × AV × Nat)} {ES : List MapEntry}, All2 (ERel ν) es ES → findBorn b es = some (k, v) → ∃ m, ES.find? (fun e => e.born == b) = some m ∧ den ν k = some m.key ∧ den ν v = some m.val
  | [], _, _, h => by simp [findBorn] at h
  | (k', v', b') :: es, [], hp, _ => hp.elim
  | (k', v', b') :: es, m :: ES, hp, h => by
    simp only [findBorn] at h
    have hb : b' = m.born := hp.1.2.2
    split at h
    · rename_i hq
      have hq := Nat.eq_of_beq_eq_true hq
      simp only [Option.some.injEq, Prod.mk.injEq] at h
      obtain ⟨rfl, rfl⟩ := h
      refine ⟨m, ?_, hp.1.1, hp.1.2.1⟩
      rw [List.find?_cons]
      have : (m.born == b) = true := by rw [← hb, hq]; simp
      rw [this]
    · rename_i hq
      have hq := Nat.ne_of_beq_eq_false hq
      obtain ⟨m', h1, h2⟩ := findBorn_rel hp.2 h
      refine ⟨m', ?_, h2⟩
      rw [List.find?_cons]
      have : (m.born == b) = false := by rw [← hb]; simpa using hq
      rw [this]
      exact h1
theorem entryAt_rel (h : WRel P w0 A ν s w) {it v : AV} {IT : Value} (hn : entryAt s it = some v) (hi : den ν it = some IT) : ∃ V, den ν v = some V ∧ (Instr.entry IT).run P w = .ok V w := by
  unfold entryAt at hn
  split at hn
  · rename_i i
    obtain ⟨g, hg, rfl⟩ := ptr_den hi
    split at hn
    · rename_i m since seen stepped hit
      obtain ⟨m', sn, ho, hm, hsn⟩ := h.iter_ hit hg
      obtain ⟨gm, hgm, rfl⟩ := hm
      split at hn
      · rename_i b es clock hb hmap
        obtain ⟨arr, hom, harr⟩ := h.map_ hmap hgm
        split at hn
        · rename_i hc
          have hc := Nat.eq_of_beq_eq_true hc
          subst hc
          rw [Option.map_eq_some_iff] at hn
          obtain ⟨⟨k, v'⟩, hf, rfl⟩ := hn
          obtain ⟨me, h1, h2, h3⟩ := findBorn_rel harr hf
          refine ⟨.tuple #[me.key, me.val], by simp [den, denL, h2, h3], ?_⟩
          have hback : sn.back? = some b := by
            rw [lastL_eq, ← hsn, Array.getLast?_toList] at hb
            exact hb
          have hfind : arr.find? (fun e => e.born == b) = some me := by rw [← Array.find?_toList]; exact h1
          unfold Instr.entry
          simp only [bind]
          rw [run_bind, run_getObj ho (by simp)]
          simp only [hback]
          rw [run_bind, run_getObj hom (by simp)]
          simp only [bne_self_eq_false, Bool.false_eq_true, if_false, hfind]
          rfl
        · cases hn
      · cases hn
    · cases hn
  · cases hn
end

end Go.Proofs.YtpifcidnpbkaoaaGreatDoor
