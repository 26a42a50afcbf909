/- walks: slices.Insert of one value into a row of the call's own; line.put -/
import Derived.Test.YtfdgflhbooaomaaLine3
import Derived.Lib.Overlaps
import Derived.Lib.AppendZerosOnto
import Derived.Laws.IdiomCopy
import Derived.Laws.Externs
import Derived.Lib.JoinLaws
namespace Go.Proofs.Ytfdgflhbooaomaa
open Go.RowKit

theorem wp_copy_run (P : Program) (w : World) {o : Oper} {a : Act} {K : Act → World → Prop} {Q : Exit → Act → World → Prop} (d s : Operand) (t t' : TypeId)
    (ho : o.op = .call { callee := .builtin .copy, args := #[d, s], argTypes := #[t, t'] }) (v u : Value) (hd : a.eval d = v) (hs : a.eval s = u) {v' : Value} {w' : World}
    (hr : (Builtin.copy_ #[t, t'] o.type #[v, u]).run P w = .ok v' w') (h : K (a.put o.dst v') w') : o.wp P a w K Q := by
  unfold Oper.wp execOp
  simp only [ho, resolve, invoke, builtin, Sem.run_bind, Sem.run_pure, Result.andThen_ok, List.map_toArray, List.map_cons, List.map_nil, hd, hs, hr]
  exact h
theorem wpList_copy_run (P : Program) (w : World) {ops : Array Oper} {rest : List Oper} {o : Oper} {a : Act} {Q : Exit → Act → World → Prop} (hgd : o.guard = none) (d s : Operand) (t t' : TypeId)
    (ho : o.op = .call { callee := .builtin .copy, args := #[d, s], argTypes := #[t, t'] }) (v u : Value) (hd : a.eval d = v) (hs : a.eval s = u) {v' : Value} {w' : World}
    (hr : (Builtin.copy_ #[t, t'] o.type #[v, u]).run P w = .ok v' w') (h : wpList P ops Q rest (a.put o.dst v') w') : wpList P ops Q (o :: rest) a w :=
  wpList_plain hgd fun _ hK => wp_copy_run P w d s t t' ho v u hd hs hr (hK _ _ h)
theorem step_copy_run (P : Program) {ops : Array Oper} {o : Oper} {a : Act} {w : World} {K : Act → World → Prop} {Q : Exit → Act → World → Prop} {E : Prop}
    (hg : o.guard = none) (d x : Operand) (dT sT : TypeId) (hop : o.op = Op.call { callee := Callee.builtin Builtin.copy, args := #[d, x], argTypes := #[dT, sT] })
    (v u : Value) (hd : a.eval d = v) (hx : a.eval x = u) {v' : Value} {w' : World} (hr : (Builtin.copy_ #[dT, sT] o.type #[v, u]).run P w = .ok v' w') (hK : K (a.put o.dst v') w') :
    if Region.wanted o (yielded ops a.tmps) = true then Oper.wp P o a w K Q else E := by
  rw [if_pos (show Region.wanted o (yielded ops a.tmps) = true from by simp [Region.wanted, hg])]
  exact wp_copy_run P w d x dT sT hop v u hd hx hr hK

/-- cells of a block written one behind the other -/
theorem blk_setCells {g : Nat} {t : TypeId} : ∀ (vs : List Value) (o : Nat) (w : World) (cs : Array Value), Blk w g t cs → o + vs.length ≤ cs.size →
    Blk (w.setCells g o vs) g t (cs.toList.take o ++ vs ++ cs.toList.drop (o + vs.length)).toArray
  | [], o, w, cs, h, _ => by
    simp only [World.setCells, List.append_nil, List.length_nil, Nat.add_zero, List.take_append_drop]
    exact h
  | v :: vs, o, w, cs, h, hl => by
    rw [World.setCells]
    have := blk_setCells vs (o + 1) _ _ (h.set_ o v) (by simp at hl ⊢; omega)
    have e : ((cs.setIfInBounds o v).toList.take (o + 1) ++ vs ++ (cs.setIfInBounds o v).toList.drop (o + 1 + vs.length)) = (cs.toList.take o ++ (v :: vs) ++ cs.toList.drop (o + (v :: vs).length)) := by
      have hlt : o < cs.toList.length := by simp at hl ⊢; omega
      simp only [Array.toList_setIfInBounds]
      rw [List.take_succ_eq_append_getElem (by simpa using hlt), List.take_set_of_le (Nat.le_refl _), List.getElem_set_self, List.drop_set_of_lt (by omega)]
      simp [Nat.add_assoc, Nat.add_comm 1]
    rw [e] at this
    exact this

theorem setCells_grown {g : Nat} : ∀ (vs : List Value) (o : Nat) (w : World), w.grownBy (w.setCells g o vs) (some g)
  | [], _, w => World.grownBy.refl w _
  | v :: vs, o, w => by
    rw [World.setCells]
    have h1 : w.grownBy (w.setCell ⟨g, o, none⟩ v) (some g) := ⟨rfl, rfl, rfl, by simp [World.setCell], fun k _ hne => Below.heap_setCell w _ v k (fun e => hne (by rw [e]))⟩
    have h2 := setCells_grown vs (o + 1) (w.setCell ⟨g, o, none⟩ v) (g := g)
    exact ⟨h2.os.trans h1.os, h2.tape.trans h1.tape, h2.output.trans h1.output, Nat.le_trans h1.size h2.size, fun k hk hne => (h2.block k (Nat.lt_of_lt_of_le hk h1.size) hne).trans (h1.block k hk hne)⟩

set_option maxHeartbeats 1000000 in
set_option maxRecDepth 100000 in
/-- there is room: in place -/
theorem insert_shift (g n c i vb : Nat) (cur : Array Value) (y : Value) (w : World) (hk : Blk w g 22 cur) (hcs : cur.size = c) (hi : i < n) (hroom : n + 1 ≤ c) (hn : c ≤ 9223372036854775807) (hv : Blk w vb 22 #[y]) (hne : vb ≠ g)
    (h1 : ∀ u ∈ cur.toList.take n, u.oneCell' = true) (hy : y.oneCell' = true) :
    Calls Try.prog 41 #[.slice (some ⟨g, 0, none⟩) n c, .int .i64 i, .slice (some ⟨vb, 0, none⟩) 1 1] w fun e w' =>
      e = .returned (.slice (some ⟨g, 0, none⟩) (n + 1) c) ∧ w' = (w.drew.setCells g (i + 1) ((cur.toList.take n).drop i)).setCells g i [y] := by
  have hz2 : ¬ ((i : Int) = (n : Int)) := by omega
  have hsz : (Try.prog.info? 22).map (·.size) = some 1 := by
    obtain ⟨i0, hi0, h0, h1, h2⟩ := info_parts u32_info
    rw [hi0]; simp [h1]
  have hszr : ∀ w, (Go.sizeOf 22).run Try.prog w = .ok 1 w := fun w => by kernel_rfl
  have hov : ∀ lb cb, (callFunc 44 #[.slice (some ⟨vb, 0, none⟩) 1 1, .slice (some ⟨g, i + 1, none⟩) lb cb]).run Try.prog w = .ok (.value (.bool false)) w := fun lb cb => by
    rw [run_callFunc_extern Try.func44 (by kernel_rfl) (by kernel_rfl) (by kernel_rfl) (e := Extern.SlicesOverlaps.overlaps #[25, 25] #[4]) (by kernel_rfl),
      Lib.run_overlaps_apart w 25 4 22 Try.underlying25 1 hszr ⟨vb, 0, none⟩ ⟨g, i + 1, none⟩ 1 1 lb cb hne 22 22 1 c (by unfold Blk at hv; simp [World.shape?, hv]) (by unfold Blk at hk; simp [World.shape?, hk, hcs]) (by omega) (hv.frozen _) (hv.frozen _)]
    rfl
  have hdl : ((cur.toList.take n).drop i).length = n - i := by simp; omega
  have hcell : ∀ j, j < c → ∃ u, cur[j]? = some u := fun j hj => ⟨cur[j], Array.getElem?_eq_getElem (by omega)⟩
  have hb1 : (0 : Int) ≤ (i : Int) + 1 := by omega
  have htn : ((i : Int) + 1).toNat = i + 1 := by omega
  have hw1 : IntKind.i64.wrap ((i : Int) + 1) = (i : Int) + 1 := by rw [IntKind.wrap_i64]; omega
  have hb2 : ¬ (c = i + 1) := by omega
  have hb3 : (i : Int) ≤ (n : Int) + 1 := by omega
  have hb4 : ¬ (c = i) := by omega
  have hin : i ≤ n := by omega
  have hcp1 : ∀ ty dc sc, (Builtin.copy_ #[25, 25] ty #[.slice (some ⟨g, i + 1, none⟩) (n - i) dc, .slice (some ⟨g, i, none⟩) (n + 1 - i) sc]).run Try.prog w.drew = .ok (goInt ((cur.toList.take n).drop i).length) (w.drew.setCells g (i + 1) ((cur.toList.take n).drop i)) := fun ty dc sc =>
    run_copy_cells w.drew _ _ ty 22 g (i + 1) (n - i) dc ⟨g, i, none⟩ (n + 1 - i) sc ((cur.toList.take n).drop i) Try.underlying25 hsz (by rw [hdl]; simp only [Nat.min_def]; split <;> omega)
      (fun j v hj => by
        rw [Addr.add_lit]
        show w.cell? _ = _
        rw [hk.cell]
        rw [List.getElem?_drop, List.getElem?_take] at hj
        split at hj
        · simpa using hj
        · cases hj)
      (fun j hj => by
        show (w.cell? _).isSome = true
        rw [hk.cell]
        obtain ⟨u, hu⟩ := hcell (i + 1 + j) (by omega)
        rw [hu]; rfl)
      (fun j hj => hk.frozen _) (fun v hv => h1 v (List.mem_of_mem_drop hv))
  obtain ⟨W1, hW1⟩ : ∃ W1, W1 = w.drew.setCells g (i + 1) ((cur.toList.take n).drop i) := ⟨_, rfl⟩
  have hB1 : Blk W1 g 22 (cur.toList.take (i + 1) ++ (cur.toList.take n).drop i ++ cur.toList.drop (i + 1 + ((cur.toList.take n).drop i).length)).toArray := by
    rw [hW1]
    exact blk_setCells _ _ _ _ hk.drew (by rw [hdl]; omega)
  have hV1 : Blk W1 vb 22 #[y] := by
    rw [hW1]
    exact ((setCells_grown _ _ w.drew).block vb hv.lt (by simpa using hne)).trans hv
  have hcp2 : ∀ ty dc, (Builtin.copy_ #[25, 25] ty #[.slice (some ⟨g, i, none⟩) (n + 1 - i) dc, .slice (some ⟨vb, 0, none⟩) 1 1]).run Try.prog W1 = .ok (goInt [y].length) (W1.setCells g i [y]) := fun ty dc =>
    run_copy_cells W1 _ _ ty 22 g i (n + 1 - i) dc ⟨vb, 0, none⟩ 1 1 [y] Try.underlying25 hsz (by simp only [Nat.min_def]; split <;> simp <;> omega)
      (fun j v hj => by
        rw [Addr.add_lit, hV1.cell]
        simpa using hj)
      (fun j hj => by
        rw [hB1.cell, Array.getElem?_eq_getElem (by simp at hj ⊢; omega)]
        rfl)
      (fun j hj => hB1.frozen _) (by simpa using hy)
  have HB1 := hide hB1
  have HV1 := hide hV1
  have HW1 := hide hW1
  rw [← hW1] at hcp1
  clear hB1 hV1 hW1 hcell hdl hk hv h1 hsz hszr hcs
  go_enter Try.func41, Try.ntmps41
  go_wp2_with (simp only [hov])
  refine wp_region_seq [(0, 2), (1, 2), (2, 2), (3, 2), (4, 2), (5, 2), (6, 2), (7, 2), (8, 0)] (fun _ => true) (fun _ => True) (by kernel_rfl) (by kernel_rfl) ?_
  intro ops hops
  have HOPS := hide hops
  clear hops
  refine wpSeq_pure (o := ?ro1) (v := ?rv1) ?rh1 ?rg1 ?rq1 ?ry1 ?_
  case rh1 => rw [HOPS.out]; simp only [List.getElem?_toArray, List.getElem?_cons_succ, List.getElem?_cons_zero]; exact rfl
  case rg1 => rfl
  case rq1 => exact fun _ _ _ h => h
  case ry1 => intro w'; go_simp; try with_reducible rfl
  simp only [Act.put, List.setIfInBounds_toArray, List.set_cons_succ, List.set_cons_zero]
  refine wpSeq_pure (o := ?ro2) (v := ?rv2) ?rh2 ?rg2 ?rq2 ?ry2 ?_
  case rh2 => rw [HOPS.out]; simp only [List.getElem?_toArray, List.getElem?_cons_succ, List.getElem?_cons_zero]; exact rfl
  case rg2 => rfl
  case rq2 => exact fun _ _ _ h => h
  case ry2 => intro w'; go_simp; try with_reducible rfl
  simp only [Act.put, List.setIfInBounds_toArray, List.set_cons_succ, List.set_cons_zero]
  refine wpSeq_pure (o := ?ro3) (v := ?rv3) ?rh3 ?rg3 ?rq3 ?ry3 ?_
  case rh3 => rw [HOPS.out]; simp only [List.getElem?_toArray, List.getElem?_cons_succ, List.getElem?_cons_zero]; exact rfl
  case rg3 => rfl
  case rq3 => exact fun _ _ _ h => h
  case ry3 => intro w'; go_simp; try with_reducible rfl
  simp only [Act.put, List.setIfInBounds_toArray, List.set_cons_succ, List.set_cons_zero]
  refine wpSeq_pure (o := ?ro4) (v := ?rv4) ?rh4 ?rg4 ?rq4 ?ry4 ?_
  case rh4 => rw [HOPS.out]; simp only [List.getElem?_toArray, List.getElem?_cons_succ, List.getElem?_cons_zero]; exact rfl
  case rg4 => rfl
  case rq4 => exact fun _ _ _ h => h
  case ry4 => intro w'; go_simp; try with_reducible rfl
  simp only [Act.put, List.setIfInBounds_toArray, List.set_cons_succ, List.set_cons_zero]
  refine wpSeq_pure (o := ?ro5) (v := ?rv5) ?rh5 ?rg5 ?rq5 ?ry5 ?_
  case rh5 => rw [HOPS.out]; simp only [List.getElem?_toArray, List.getElem?_cons_succ, List.getElem?_cons_zero]; exact rfl
  case rg5 => rfl
  case rq5 => exact fun _ _ _ h => h
  case ry5 => intro w'; go_simp; try with_reducible rfl
  simp only [Act.put, List.setIfInBounds_toArray, List.set_cons_succ, List.set_cons_zero]
  refine wpSeq_pure (o := ?ro6) (v := ?rv6) ?rh6 ?rg6 ?rq6 ?ry6 ?_
  case rh6 => rw [HOPS.out]; simp only [List.getElem?_toArray, List.getElem?_cons_succ, List.getElem?_cons_zero]; exact rfl
  case rg6 => rfl
  case rq6 => exact fun _ _ _ h => h
  case ry6 => intro w'; go_simp; try with_reducible rfl
  simp only [Act.put, List.setIfInBounds_toArray, List.set_cons_succ, List.set_cons_zero]
  refine wpSeq_pure (o := ?ro7) (v := ?rv7) ?rh7 ?rg7 ?rq7 ?ry7 ?_
  case rh7 => rw [HOPS.out]; simp only [List.getElem?_toArray, List.getElem?_cons_succ, List.getElem?_cons_zero]; exact rfl
  case rg7 => rfl
  case rq7 => exact fun _ _ _ h => h
  case ry7 => intro w'; go_simp; try with_reducible rfl
  simp only [Act.put, List.setIfInBounds_toArray, List.set_cons_succ, List.set_cons_zero]
  refine wpSeq_pure (o := ?ro8) (v := ?rv8) ?rh8 ?rg8 ?rq8 ?ry8 ?_
  case rh8 => rw [HOPS.out]; simp only [List.getElem?_toArray, List.getElem?_cons_succ, List.getElem?_cons_zero]; exact rfl
  case rg8 => rfl
  case rq8 => exact fun _ _ _ h => h
  case ry8 => intro w'; go_simp; try with_reducible rfl
  simp only [Act.put, List.setIfInBounds_toArray, List.set_cons_succ, List.set_cons_zero]
  refine wpSeq_step (o := ?ro9) ?rh9 (fun K hK => ?_)
  case rh9 => rw [HOPS.out]; simp only [List.getElem?_toArray, List.getElem?_cons_succ, List.getElem?_cons_zero]; exact rfl
  refine step_copy_run _ rfl _ _ 25 25 rfl _ _ (by simp [Act.eval, Act.put]) (by simp [Act.eval, Act.put]) (hcp1 _ (c - (i + 1)) (c - i)) ?_
  refine hK _ _ (fun _ h => h) ?_
  clear hK K
  refine wpSeq_nil ?_
  go_wp2_with (first | (at_builtin; refine wpList_copy_run _ _ rfl _ _ 25 25 rfl _ _ rfl rfl (hcp2 _ _) ?_) | (refine wpList_copy_run _ _ rfl (.tmp 80) (.tmp 81) 25 25 rfl _ _ rfl rfl (hcp2 _ _) ?_))
  go_ret
  exact ⟨rfl, by rw [HW1.out]⟩

/-! ### no room -/
set_option maxHeartbeats 2000000 in
set_option maxRecDepth 100000 in
theorem insert_grow (g n c i vb : Nat) (cur : Array Value) (y : Value) (w : World) (hk : Blk w g 22 cur) (hcs : cur.size = c) (hi : i < n) (hnc : n ≤ c) (hroom : c < n + 1) (hn : n ≤ 1000000) (hv : Blk w vb 22 #[y])
    (h1 : ∀ u ∈ cur.toList.take n, u.oneCell' = true) (hy : y.oneCell' = true) :
    Calls Try.prog 41 #[.slice (some ⟨g, 0, none⟩) n c, .int .i64 i, .slice (some ⟨vb, 0, none⟩) 1 1] w fun e w' => ∃ (G : Nat) (row : Array Value),
      e = .returned (.slice (some ⟨w.heap.size, 0, none⟩) (n + 1) G) ∧ n + 1 ≤ G ∧ G ≤ maxLen ∧ row.size = G ∧ row.toList.take i = cur.toList.take i ∧ w' = (((w.alloc (.cells row 22)).drew.setCells w.heap.size i [y]).drew).setCells w.heap.size (i + 1) ((cur.toList.take n).drop i) := by
  obtain ⟨i0, hi0, hz0, hzs, hzb⟩ := info_parts u32_info
  have hz2 : ¬ ((i : Int) = (n : Int)) := by omega
  have hz3 : (c : Int) < (n : Int) + 1 := by omega
  have hsz : (Try.prog.info? 22).map (·.size) = some 1 := by rw [hi0]; simp [hzs]
  have hkk : (n : Int) + 1 - (i : Int) = ((n + 1 - i : Nat) : Int) := by omega
  have hik : i + (n + 1 - i) = n + 1 := by omega
  have hgw := hk.lt
  have hvw := hv.lt
  have hold : (Builtin.firstCells i0.size i (.slice (some ⟨g, 0, none⟩) i c)).run Try.prog w.drew = .ok (cur.toList.take i).toArray w.drew := by
    rw [hzs]
    exact run_firstCells_some w.drew 1 i ⟨g, 0, none⟩ i c (cur.toList.take i) (by rw [List.length_take]; simp; omega) (fun j v hj => by
      rw [Addr.add_lit]
      show w.cell? _ = _
      rw [hk.cell]
      rw [List.getElem?_take] at hj
      split at hj
      · simpa using hj
      · cases hj)
  have hrz : ∀ ty, (Builtin.append_ #[25, 3] ty #[.slice (some ⟨g, 0, none⟩) i c, .int .i64 ((n : Int) + 1 - (i : Int))]).run Try.prog w =
      .ok (.slice (some ⟨w.heap.size, 0, none⟩) (n + 1) (grownCap w (n + 1) c 22)) (w.drew.alloc (.cells ((cur.toList.take i).toArray ++ Builtin.zeroCells (Value.int .u32 0).cells (n + 1 - i) ++ Builtin.zeroCells (Value.int .u32 0).cells (grownCap w (n + 1) c 22 - (n + 1))) 22)) := fun ty => by
    have h := Lib.run_append_grow_zeros w 25 3 ty 22 i0 _ .i64 .i64 Try.underlying25 Try.underlying3 hi0 hz0 (some ⟨g, 0, none⟩) i c (cur.toList.take i) hold (n + 1 - i) (by omega) (by omega) (by omega) (by omega) (by rw [hzb]; omega) (by rw [hzb, hik]; exact growslice_fits hroom (by omega))
    rw [hik] at h
    rw [hkk]
    exact h
  obtain ⟨G, hG⟩ : ∃ G, G = grownCap w (n + 1) c 22 := ⟨_, rfl⟩
  obtain ⟨ROW, hROW⟩ : ∃ ROW : Array Value, ROW = (cur.toList.take i).toArray ++ Builtin.zeroCells (Value.int .u32 0).cells (n + 1 - i) ++ Builtin.zeroCells (Value.int .u32 0).cells (G - (n + 1)) := ⟨_, rfl⟩
  rw [← hG] at hrz
  rw [← hROW] at hrz
  have hGn : n + 1 ≤ G := by rw [hG]; exact grownCap_ge w _ _ _
  have hG63 : G ≤ maxLen := by
    have := grownCap_le_maxLen w (n + 1) c 22 (by unfold maxLen; omega)
    rw [← hG] at this
    exact this
  have hRl : ROW.size = G := by
    rw [hROW]
    simp [Builtin.zeroCells, Value.cells]
    omega
  have hRt : ROW.toList.take i = cur.toList.take i := by
    have hl : (cur.toList.take i).length = i := by simp; omega
    rw [hROW, Array.toList_append, Array.toList_append, List.append_assoc]
    show List.take i (cur.toList.take i ++ _) = _
    rw [List.take_append_of_le_length (by omega), List.take_of_length_le (by omega)]
  obtain ⟨W1, hW1⟩ : ∃ W1, W1 = (w.alloc (.cells ROW 22)).drew := ⟨_, rfl⟩
  have hB1 : Blk W1 w.heap.size 22 ROW := by rw [hW1]; exact Blk.new w _ _
  have hV1 : Blk W1 vb 22 #[y] := by rw [hW1]; exact hv.alloc _
  have hO1 : Blk W1 g 22 cur := by rw [hW1]; exact hk.alloc _
  have hcpA : ∀ ty dc, (Builtin.copy_ #[25, 25] ty #[.slice (some ⟨w.heap.size, i, none⟩) (n + 1 - i) dc, .slice (some ⟨vb, 0, none⟩) 1 1]).run Try.prog W1 = .ok (goInt [y].length) (W1.setCells w.heap.size i [y]) := fun ty dc =>
    run_copy_cells W1 _ _ ty 22 w.heap.size i (n + 1 - i) dc ⟨vb, 0, none⟩ 1 1 [y] Try.underlying25 hsz (by simp only [Nat.min_def]; split <;> simp <;> omega)
      (fun j v hj => by
        rw [Addr.add_lit, hV1.cell]
        simpa using hj)
      (fun j hj => by
        rw [hB1.cell, Array.getElem?_eq_getElem (by simp at hj ⊢; omega)]
        rfl)
      (fun j hj => hB1.frozen _) (by simpa using hy)
  obtain ⟨W2, hW2⟩ : ∃ W2, W2 = W1.setCells w.heap.size i [y] := ⟨_, rfl⟩
  have hB2 : Blk W2 w.heap.size 22 (ROW.toList.take i ++ [y] ++ ROW.toList.drop (i + [y].length)).toArray := by
    rw [hW2]
    exact blk_setCells _ _ _ _ hB1 (by simp; omega)
  have hO2 : Blk W2 g 22 cur := by
    rw [hW2]
    exact ((setCells_grown _ _ W1).block g hO1.lt (by simp; omega)).trans hO1
  have hdl : ((cur.toList.take n).drop i).length = n - i := by simp; omega
  have hcpB : ∀ ty dc sc, (Builtin.copy_ #[25, 25] ty #[.slice (some ⟨w.heap.size, i + 1, none⟩) (n - i) dc, .slice (some ⟨g, i, none⟩) (n - i) sc]).run Try.prog W2.drew = .ok (goInt ((cur.toList.take n).drop i).length) (W2.drew.setCells w.heap.size (i + 1) ((cur.toList.take n).drop i)) := fun ty dc sc =>
    run_copy_cells W2.drew _ _ ty 22 w.heap.size (i + 1) (n - i) dc ⟨g, i, none⟩ (n - i) sc ((cur.toList.take n).drop i) Try.underlying25 hsz (by rw [hdl]; simp only [Nat.min_def]; split <;> omega)
      (fun j v hj => by
        rw [Addr.add_lit]
        show W2.cell? _ = _
        rw [hO2.cell]
        rw [List.getElem?_drop, List.getElem?_take] at hj
        split at hj
        · simpa using hj
        · cases hj)
      (fun j hj => by
        show (W2.cell? _).isSome = true
        rw [hB2.cell, Array.getElem?_eq_getElem (by simp; omega)]
        rfl)
      (fun j hj => hB2.frozen _) (fun v hv => h1 v (List.mem_of_mem_drop hv))
  have hGi : ¬ (G = i) := by omega
  have hGim : ¬ (G = i + 1) := by omega
  have hci : ¬ (c = i) := by omega
  have hw1 : IntKind.i64.wrap ((i : Int) + 1) = (i : Int) + 1 := by rw [IntKind.wrap_i64]; omega
  have hb1 : (0 : Int) ≤ (i : Int) + 1 := by omega
  have hin : i ≤ n := by omega
  have htn : ((i : Int) + 1).toNat = i + 1 := by omega
  have hb3 : (i : Int) ≤ (n : Int) := by omega
  have HF := hide (show ((W2.drew).setCells w.heap.size (i + 1) ((cur.toList.take n).drop i)) = (((w.alloc (.cells ROW 22)).drew.setCells w.heap.size i [y]).drew).setCells w.heap.size (i + 1) ((cur.toList.take n).drop i) from by rw [hW2, hW1])
  have HRT := hide hRt
  have HRL := hide hRl
  have hE : w.drew.alloc (.cells ROW 22) = W1 := by rw [hW1]; rfl
  rw [hE] at hrz
  rw [← hW2] at hcpA
  clear hkk hik hold hROW hG hRl hRt hE hW1 hW2 hB1 hV1 hO1 hB2 hO2 hdl hk hv h1 hsz hcs hi0 hz0 hzs hzb
  go_enter Try.func41, Try.ntmps41
  go_wp2_with (first
    | (at_builtin; refine Lib.wpList_append_run _ rfl _ _ _ _ rfl _ _ rfl rfl _ _ (hrz _) ?_)
    | (refine wpList_copy_run _ _ rfl (.tmp 43) (.tmp 44) 25 25 rfl _ _ rfl rfl (hcpA _ _) ?_))
  refine wp_region_seq [(0, 2), (1, 2), (2, 2), (3, 2), (4, 2), (5, 2), (6, 2), (7, 2), (8, 0)] (fun _ => true) (fun _ => True) (by kernel_rfl) (by kernel_rfl) ?_
  intro ops hops
  have HOPS := hide hops
  clear hops
  refine wpSeq_pure (o := ?ro1) (v := ?rv1) ?rh1 ?rg1 ?rq1 ?ry1 ?_
  case rh1 => rw [HOPS.out]; simp only [List.getElem?_toArray, List.getElem?_cons_succ, List.getElem?_cons_zero]; exact rfl
  case rg1 => rfl
  case rq1 => exact fun _ _ _ h => h
  case ry1 => intro w'; go_simp; try with_reducible rfl
  simp only [Act.put, List.setIfInBounds_toArray, List.set_cons_succ, List.set_cons_zero]
  refine wpSeq_pure (o := ?ro2) (v := ?rv2) ?rh2 ?rg2 ?rq2 ?ry2 ?_
  case rh2 => rw [HOPS.out]; simp only [List.getElem?_toArray, List.getElem?_cons_succ, List.getElem?_cons_zero]; exact rfl
  case rg2 => rfl
  case rq2 => exact fun _ _ _ h => h
  case ry2 => intro w'; go_simp; try with_reducible rfl
  simp only [Act.put, List.setIfInBounds_toArray, List.set_cons_succ, List.set_cons_zero]
  refine wpSeq_pure (o := ?ro3) (v := ?rv3) ?rh3 ?rg3 ?rq3 ?ry3 ?_
  case rh3 => rw [HOPS.out]; simp only [List.getElem?_toArray, List.getElem?_cons_succ, List.getElem?_cons_zero]; exact rfl
  case rg3 => rfl
  case rq3 => exact fun _ _ _ h => h
  case ry3 => intro w'; go_simp; try with_reducible rfl
  simp only [Act.put, List.setIfInBounds_toArray, List.set_cons_succ, List.set_cons_zero]
  refine wpSeq_pure (o := ?ro4) (v := ?rv4) ?rh4 ?rg4 ?rq4 ?ry4 ?_
  case rh4 => rw [HOPS.out]; simp only [List.getElem?_toArray, List.getElem?_cons_succ, List.getElem?_cons_zero]; exact rfl
  case rg4 => rfl
  case rq4 => exact fun _ _ _ h => h
  case ry4 => intro w'; go_simp; try with_reducible rfl
  simp only [Act.put, List.setIfInBounds_toArray, List.set_cons_succ, List.set_cons_zero]
  refine wpSeq_pure (o := ?ro5) (v := ?rv5) ?rh5 ?rg5 ?rq5 ?ry5 ?_
  case rh5 => rw [HOPS.out]; simp only [List.getElem?_toArray, List.getElem?_cons_succ, List.getElem?_cons_zero]; exact rfl
  case rg5 => rfl
  case rq5 => exact fun _ _ _ h => h
  case ry5 => intro w'; go_simp; try with_reducible rfl
  simp only [Act.put, List.setIfInBounds_toArray, List.set_cons_succ, List.set_cons_zero]
  refine wpSeq_pure (o := ?ro6) (v := ?rv6) ?rh6 ?rg6 ?rq6 ?ry6 ?_
  case rh6 => rw [HOPS.out]; simp only [List.getElem?_toArray, List.getElem?_cons_succ, List.getElem?_cons_zero]; exact rfl
  case rg6 => rfl
  case rq6 => exact fun _ _ _ h => h
  case ry6 => intro w'; go_simp; try with_reducible rfl
  simp only [Act.put, List.setIfInBounds_toArray, List.set_cons_succ, List.set_cons_zero]
  refine wpSeq_pure (o := ?ro7) (v := ?rv7) ?rh7 ?rg7 ?rq7 ?ry7 ?_
  case rh7 => rw [HOPS.out]; simp only [List.getElem?_toArray, List.getElem?_cons_succ, List.getElem?_cons_zero]; exact rfl
  case rg7 => rfl
  case rq7 => exact fun _ _ _ h => h
  case ry7 => intro w'; go_simp; try with_reducible rfl
  simp only [Act.put, List.setIfInBounds_toArray, List.set_cons_succ, List.set_cons_zero]
  refine wpSeq_pure (o := ?ro8) (v := ?rv8) ?rh8 ?rg8 ?rq8 ?ry8 ?_
  case rh8 => rw [HOPS.out]; simp only [List.getElem?_toArray, List.getElem?_cons_succ, List.getElem?_cons_zero]; exact rfl
  case rg8 => rfl
  case rq8 => exact fun _ _ _ h => h
  case ry8 => intro w'; go_simp; try with_reducible rfl
  simp only [Act.put, List.setIfInBounds_toArray, List.set_cons_succ, List.set_cons_zero]
  refine wpSeq_step (o := ?ro9) ?rh9 (fun K hK => ?_)
  case rh9 => rw [HOPS.out]; simp only [List.getElem?_toArray, List.getElem?_cons_succ, List.getElem?_cons_zero]; exact rfl
  refine step_copy_run _ rfl _ _ 25 25 rfl _ _ (by simp [Act.eval, Act.put]) (by simp [Act.eval, Act.put]) (hcpB _ (G - (i + 1)) (c - i)) ?_
  refine hK _ _ (fun _ h => h) ?_
  clear hK K
  refine wpSeq_nil ?_
  go_wp2
  go_ret
  exact ⟨G, ROW, rfl, hGn, hG63, HRL.out, HRT.out, HF.out⟩

end Go.Proofs.Ytfdgflhbooaomaa
