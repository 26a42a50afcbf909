/- walks: line.Act: set, approve, reject; all together -/
import Derived.Test.YtfdgflhbooaomaaLine8
namespace Go.Proofs.Ytfdgflhbooaomaa
open Go.RowKit

set_option maxHeartbeats 1000000 in
theorem act_set (D : Nat → Prop) (cs : List Value) (oa : Array Value) (x : LineM) (o : OpM) (w : World) (hx : LineR.at_ w D cs x) (ho : OpAt oa o) (ha : x.ap.length ≤ 1000) (hb : x.re.length ≤ 1000) (hkd : o.kind = 4) (hst : x.st = 0) :
    Calls Try.prog 9 #[.agg cs.toArray, .agg oa] w fun e w' => ∃ cs', e = .returned (.tuple #[.agg cs'.toArray, .int .i64 0]) ∧ LineR.at_ w' (dom D w.heap.size [] w') cs' { x with qty := o.qty, vr := o.r, vn := o.n, ap := [], re := [] } ∧ Below w.heap.size w w' := by
  have hk : 0 ≤ kidx o.kind := by rw [hkd]; decide
  have hki : kidx o.kind = 0 := by rw [hkd]; decide
  have HKI := hide hki
  have hsb : (x.st != 0) = false := by simp [hst]
  clear hst hki hkd
  obtain ⟨A, c, A', c', rfl, hx1, hx2⟩ := hx
  have HO := hide ho
  have hcs := hide ho.kind
  clear ho
  go_enter Try.func9, Try.ntmps9
  go_wp2_with fail
  refine at_call3 w.heap.size 27 (w.heap.size + 1) 33 (w.heap.size + 1 + 1) 27 (fun W => Below w.heap.size w W) (((Blk.new _ _ _).alloc _).alloc _) ((Blk.new_ (by simp)).alloc _) (Blk.new_ (by simp)) ((((Below.refl _ _).alloc (Nat.le_refl _) _).alloc (by simp) _).alloc (by simp <;> omega) _) ?_
  rintro W k0 k1 k2 b0
  have hx1 := U32s.boxed (U32s.start hx1) b0 (L' := [w.heap.size, w.heap.size + 1, w.heap.size + 1 + 1]) (by simp <;> omega)
  have hx2 := U32s.boxed (U32s.start hx2) b0 (L' := [w.heap.size, w.heap.size + 1, w.heap.size + 1 + 1]) (by simp <;> omega)
  refine (acts_any W).mono ?_
  rintro e w1 ⟨rfl, hb1⟩
  have K0 := hide (k0.after hb1)
  have K1 := hide (k1.after hb1)
  have K2 := hide (k2.after hb1)
  have X1 := hide (U32s.after hx1 hb1)
  have X2 := hide (U32s.after hx2 hb1)
  have B1 := hide (b0.trans (hb1.mono b0.size))
  clear k0 k1 k2 b0 hb1 hx1 hx2
  go_wp2_with fail
  refine at_call4 w.heap.size 27 (w.heap.size + 1) 33 (w.heap.size + 1 + 1) 27 w1.heap.size 55 (fun W => Below w.heap.size w W ∧ Below w1.heap.size w1 W) (K0.out.alloc _) (K1.out.alloc _) (K2.out.alloc _) (Blk.new _ _ _) ⟨B1.out.alloc B1.out.size _, (Below.refl _ _).alloc (Nat.le_refl _) _⟩ ?_
  rintro W1 k0 k1 k2 k3 ⟨b1, b1'⟩
  refine (kindex_any W1 _ _ _ oa o.kind k1 hcs.out k3).mono ?_
  rintro e w2 ⟨rfl, hb2⟩
  have Y1 := hide (U32s.boxed X1.out (b1'.trans (hb2.mono b1'.size)) (L' := [w.heap.size, w.heap.size + 1, w.heap.size + 1 + 1, w1.heap.size]) (by simp <;> omega))
  have Y2 := hide (U32s.boxed X2.out (b1'.trans (hb2.mono b1'.size)) (L' := [w.heap.size, w.heap.size + 1, w.heap.size + 1 + 1, w1.heap.size]) (by simp <;> omega))
  have M0 := hide (k0.after hb2)
  have M1 := hide (k1.after hb2)
  have M2 := hide (k2.after hb2)
  have M3 := hide (k3.after hb2)
  have B2 := hide (b1.trans (hb2.mono b1.size))
  clear k0 k1 k2 k3 b1 b1' hb2 K0 K1 K2 X1 X2 B1
  obtain ⟨c0, f0⟩ := M0.out.rules
  obtain ⟨c2, f2⟩ := M2.out.rules
  have l2 := M2.out.lt
  have l3 := M3.out.lt
  have hki := HKI.out
  go_wp2_with fail
  have HL4 : Hid (∀ g ∈ [w.heap.size, w.heap.size + 1, w.heap.size + 1 + 1, w1.heap.size], g < w2.heap.size) := by intro g hg; simp at hg; omega
  refine (copied_any _ _ x _ ⟨A, c, A', c', rfl, Y1.out, Y2.out⟩ (by omega) (by omega)).mono ?_
  rintro e w3 ⟨cs3, rfl, h3, hb3⟩
  obtain ⟨A3, a3, A3', a3', rfl, y1, y2⟩ := LineR.called h3 HL4.out B2.out.size
  have V1 := hide y1
  have V2 := hide y2
  have X1 := hide (U32s.after Y1.out hb3)
  have X2 := hide (U32s.after Y2.out hb3)
  have N0 := hide (M0.out.after hb3)
  have N1 := hide (M1.out.after hb3)
  have N2 := hide (M2.out.after hb3)
  have N3 := hide (M3.out.after hb3)
  have B3 := hide (B2.out.trans (hb3.mono B2.out.size))
  have z3 := hb3.size
  clear h3 hb3 y1 y2 M0 M1 M2 M3 Y1 Y2 B2 c0 f0 c2 f2
  go_wp2_with fail
  refine at_code5 w.heap.size 27 (w.heap.size + 1) 33 (w.heap.size + 1 + 1) 27 w1.heap.size 55 w3.heap.size 27 (fun W => Below w.heap.size w W ∧ Below w3.heap.size w3 W) (N0.out.alloc _) (N1.out.alloc _) (N2.out.alloc _) (N3.out.alloc _) (Blk.new _ _ _) ⟨B3.out.alloc B3.out.size _, (Below.refl _ _).alloc (Nat.le_refl _) _⟩ ?_
  rintro W3 k0 k1 k2 k3 k4 ⟨b3, b3'⟩
  have W1_ := hide (U32s.boxed V1.out b3' (L' := [w.heap.size, w.heap.size + 1, w.heap.size + 1 + 1, w1.heap.size, w3.heap.size]) (by simp <;> omega))
  have W2_ := hide (U32s.boxed V2.out b3' (L' := [w.heap.size, w.heap.size + 1, w.heap.size + 1 + 1, w1.heap.size, w3.heap.size]) (by simp <;> omega))
  have X1_ := hide (U32s.boxed X1.out b3' (L' := [w.heap.size, w.heap.size + 1, w.heap.size + 1 + 1, w1.heap.size, w3.heap.size]) (by simp <;> omega))
  have X2_ := hide (U32s.boxed X2.out b3' (L' := [w.heap.size, w.heap.size + 1, w.heap.size + 1 + 1, w1.heap.size, w3.heap.size]) (by simp <;> omega))
  clear V1 V2 X1 X2 N0 N1 N2 N3 B3
  have M0 := hide k0
  have M1 := hide k1
  have M2 := hide k2
  have M3 := hide k3
  have M4 := hide k4
  have B3 := hide b3
  obtain ⟨c0, f0⟩ := k0.rules
  obtain ⟨c2, f2⟩ := k2.rules
  obtain ⟨c3, f3⟩ := k3.rules
  obtain ⟨c4, f4⟩ := k4.rules
  have l0 := k0.lt
  have l1 := k1.lt
  have l2 := k2.lt
  have l3 := k3.lt
  have l4 := k4.lt
  have z4 := b3.size
  clear k0 k1 k2 k3 k4 b3 b3'
  have s0 : Below W3.heap.size W3 W3.drew := (Below.refl _ _).drew
  refine wp_region_seq [(0, 2), (1, 1), (2, 2), (3, 2), (4, 2), (5, 2), (6, 2), (7, 1), (8, 1), (9, 0), (10, 2), (11, 2)] (fun j => !(j == 9)) (fun w' => Below W3.heap.size W3 w') (by kernel_rfl) (by kernel_rfl) ?_
  intro ops hops
  have HOPS := hide hops
  clear hops
  refine wpSeq_pure (o := ?ro25) (v := ?rv25) ?rh25 ?rg25 ?rq25 ?ry25 ?_
  case rh25 => rw [HOPS.out]; simp only [List.getElem?_toArray, List.getElem?_cons_succ, List.getElem?_cons_zero]; exact rfl
  case rg25 => rfl
  case rq25 => exact fun _ _ _ h => h
  case ry25 => intro w'; go_simp; try with_reducible rfl
  simp only [Act.put, List.setIfInBounds_toArray, List.set_cons_succ, List.set_cons_zero]
  refine wpSeq_read (o := ?ro26) (v := ?rv26) ?rh26 ?rg26 ?rq26 s0 ?ry26 ?_
  case rh26 => rw [HOPS.out]; simp only [List.getElem?_toArray, List.getElem?_cons_succ, List.getElem?_cons_zero]; exact rfl
  case rg26 => rfl
  case rq26 => exact fun _ _ _ h => h
  case ry26 => intro w' hs; obtain ⟨cc, ff⟩ := bcell hs; go_simp; try with_reducible rfl
  simp only [Act.put, List.setIfInBounds_toArray, List.set_cons_succ, List.set_cons_zero]
  refine wpSeq_pure (o := ?ro27) (v := ?rv27) ?rh27 ?rg27 ?rq27 ?ry27 ?_
  case rh27 => rw [HOPS.out]; simp only [List.getElem?_toArray, List.getElem?_cons_succ, List.getElem?_cons_zero]; exact rfl
  case rg27 => rfl
  case rq27 => exact fun _ _ _ h => h
  case ry27 => intro w'; go_simp; try with_reducible rfl
  simp only [Act.put, List.setIfInBounds_toArray, List.set_cons_succ, List.set_cons_zero]
  refine wpSeq_pure (o := ?ro28) (v := ?rv28) ?rh28 ?rg28 ?rq28 ?ry28 ?_
  case rh28 => rw [HOPS.out]; simp only [List.getElem?_toArray, List.getElem?_cons_succ, List.getElem?_cons_zero]; exact rfl
  case rg28 => rfl
  case rq28 => exact fun _ _ _ h => h
  case ry28 => intro w'; go_simp; try with_reducible rfl
  simp only [Act.put, List.setIfInBounds_toArray, List.set_cons_succ, List.set_cons_zero]
  refine wpSeq_pure (o := ?ro29) (v := ?rv29) ?rh29 ?rg29 ?rq29 ?ry29 ?_
  case rh29 => rw [HOPS.out]; simp only [List.getElem?_toArray, List.getElem?_cons_succ, List.getElem?_cons_zero]; exact rfl
  case rg29 => rw [HOPS.out]; rfl
  case rq29 => exact fun _ _ _ h => h
  case ry29 => intro w'; go_simp; try with_reducible rfl
  simp only [Act.put, List.setIfInBounds_toArray, List.set_cons_succ, List.set_cons_zero]
  refine wpSeq_pure (o := ?ro30) (v := ?rv30) ?rh30 ?rg30 ?rq30 ?ry30 ?_
  case rh30 => rw [HOPS.out]; simp only [List.getElem?_toArray, List.getElem?_cons_succ, List.getElem?_cons_zero]; exact rfl
  case rg30 => rw [HOPS.out]; rfl
  case rq30 => exact fun _ _ _ h => h
  case ry30 => intro w'; go_simp; try with_reducible rfl
  simp only [Act.put, List.setIfInBounds_toArray, List.set_cons_succ, List.set_cons_zero]
  refine wpSeq_pure (o := ?ro31) (v := ?rv31) ?rh31 ?rg31 ?rq31 ?ry31 ?_
  case rh31 => rw [HOPS.out]; simp only [List.getElem?_toArray, List.getElem?_cons_succ, List.getElem?_cons_zero]; exact rfl
  case rg31 => rw [HOPS.out]; rfl
  case rq31 => exact fun _ _ _ h => h
  case ry31 => intro w'; go_simp; try with_reducible rfl
  simp only [Act.put, List.setIfInBounds_toArray, List.set_cons_succ, List.set_cons_zero]
  refine wpSeq_read (o := ?ro32) (v := ?rv32) ?rh32 ?rg32 ?rq32 s0 ?ry32 ?_
  case rh32 => rw [HOPS.out]; simp only [List.getElem?_toArray, List.getElem?_cons_succ, List.getElem?_cons_zero]; exact rfl
  case rg32 => rw [HOPS.out]; rfl
  case rq32 => exact fun _ _ _ h => h
  case ry32 => intro w' hs; obtain ⟨cc, ff⟩ := bcell hs; go_simp; try with_reducible rfl
  simp only [Act.put, List.setIfInBounds_toArray, List.set_cons_succ, List.set_cons_zero]
  refine wpSeq_read (o := ?ro33) (v := ?rv33) ?rh33 ?rg33 ?rq33 s0 ?ry33 ?_
  case rh33 => rw [HOPS.out]; simp only [List.getElem?_toArray, List.getElem?_cons_succ, List.getElem?_cons_zero]; exact rfl
  case rg33 => rw [HOPS.out]; rfl
  case rq33 => exact fun _ _ _ h => h
  case ry33 => intro w' hs; obtain ⟨cc, ff⟩ := bcell hs; refine exec_load_row (ρ := Act.eval _) 33 (.tmp 3) ?_ (w.heap.size + 1) ?_ 33 oa _ (M1.out.after hs) Try.underlying33 rfl (by rw [HO.out.size]; kernel_rfl) <;> rfl; try with_reducible rfl
  simp only [Act.put, List.setIfInBounds_toArray, List.set_cons_succ, List.set_cons_zero]
  refine wpSeq_step (o := ?ro34) ?rh34 (fun K hK => ?_)
  case rh34 => rw [HOPS.out]; simp only [List.getElem?_toArray, List.getElem?_cons_succ, List.getElem?_cons_zero]; exact rfl
  rw [HOPS.out]
  go_simp
  refine (acts1_any w.heap.size _ oa _ M0.out.drew rfl o.qty o.r o.n HO.out.qty HO.out.r HO.out.n).mono ?_
  rintro e w4 ⟨rfl, hk4, hg4⟩
  simp at hk4
  have hg4 := undrewG hg4
  have P2 := hide (M2.out.grown hg4 (by omega))
  have P4 := hide (M4.out.grown hg4 (by omega))
  have V1 := hide (Rp.grown_ _ W1_.out hg4 (by simp))
  have V2 := hide (Rp.grown_ _ W2_.out hg4 (by simp))
  have U1 := hide (Rp.grown_ _ X1_.out hg4 (by simp))
  have U2 := hide (Rp.grown_ _ X2_.out hg4 (by simp))
  have B4 := hide (below_grown0 B3.out hg4 (Nat.le_refl _) z4)
  have z5 := hg4.size
  have P0 := hide hk4
  obtain ⟨d0, e0⟩ := P0.out.rules
  obtain ⟨d2, e2⟩ := P2.out.rules
  obtain ⟨d4, e4⟩ := P4.out.rules
  clear hk4 hg4 c0 f0 c2 f2 c3 f3 c4 f4 W1_ W2_ X1_ X2_
  refine hK _ _ (fun h => by cases h) ?_
  clear hK K
  refine wpSeq_pure (o := ?ro35) (v := ?rv35) ?rh35 ?rg35 ?rq35 ?ry35 ?_
  case rh35 => rw [HOPS.out]; simp only [List.getElem?_toArray, List.getElem?_cons_succ, List.getElem?_cons_zero]; exact rfl
  case rg35 => rw [HOPS.out]; rfl
  case rq35 => exact fun _ _ _ h => h
  case ry35 => intro w'; go_simp; try with_reducible rfl
  simp only [Act.put, List.setIfInBounds_toArray, List.set_cons_succ, List.set_cons_zero]
  refine wpSeq_pure (o := ?ro36) (v := ?rv36) ?rh36 ?rg36 ?rq36 ?ry36 ?_
  case rh36 => rw [HOPS.out]; simp only [List.getElem?_toArray, List.getElem?_cons_succ, List.getElem?_cons_zero]; exact rfl
  case rg36 => rfl
  case rq36 => exact fun _ _ _ h => h
  case ry36 => intro w'; go_simp; try with_reducible rfl
  simp only [Act.put, List.setIfInBounds_toArray, List.set_cons_succ, List.set_cons_zero]
  refine wpSeq_nil ?_
  go_wp2_with fail
  have HL5 : Hid (∀ g ∈ [w.heap.size, w.heap.size + 1, w.heap.size + 1 + 1, w1.heap.size, w3.heap.size], g < w4.heap.size) := by intro g hg; simp at hg; omega
  refine (copied_any (dom D w.heap.size [w.heap.size, w.heap.size + 1, w.heap.size + 1 + 1, w1.heap.size, w3.heap.size] w4) _ { x with qty := o.qty, vr := o.r, vn := o.n, ap := [], re := [] } _ ⟨_, _, _, _, rfl, Rp.slice_nil, Rp.slice_nil⟩ (by simp) (by simp)).mono ?_
  rintro e w5 ⟨cs5, rfl, h5, hb5⟩
  obtain ⟨A5, a5, A5', a5', rfl, y1, y2⟩ := LineR.called h5 HL5.out B4.out.size
  have V3 := hide y1
  have V4 := hide y2
  have Q2 := hide (P2.out.after hb5)
  have B5 := hide (B4.out.trans (hb5.mono B4.out.size))
  obtain ⟨q2, r2⟩ := Q2.out.rules
  clear h5 hb5 y1 y2 d0 e0 d2 e2 d4 e4
  go_wp2_with fail
  refine bodyPost_ret (v := .tuple #[.agg #[.int .u8 x.r, .int .u32 x.n, .int .u32 x.item, .int .u32 o.qty, .int .u32 x.price, .int .u8 o.r, .int .u32 o.n, .slice A5 0 a5, .slice A5' 0 a5', .int .u8 x.st], .int .i64 0]) (by simp [results, Try.results9, go_sem, q2, r2]) rfl ⟨_, rfl, ⟨A5, a5, A5', a5', rfl, ?_, ?_⟩, ?_⟩
  · refine Rp.ends _ (L := [w.heap.size, w.heap.size + 1, w.heap.size + 1 + 1, w1.heap.size, w3.heap.size]) ?_
    repeat (first | with_reducible refine Rp.drew_ _ ?_ | with_reducible refine Rp.stored _ ?_ (by simp) _)
    exact V3.out
  · refine Rp.ends _ (L := [w.heap.size, w.heap.size + 1, w.heap.size + 1 + 1, w1.heap.size, w3.heap.size]) ?_
    repeat (first | with_reducible refine Rp.drew_ _ ?_ | with_reducible refine Rp.stored _ ?_ (by simp) _)
    exact V4.out
  · repeat (first | with_reducible refine Below.drew ?_ | with_reducible refine Below.setCell ?_ (by simp <;> omega) _)
    exact B5.out

set_option maxHeartbeats 1000000 in
theorem act_approve (D : Nat → Prop) (cs : List Value) (oa : Array Value) (x : LineM) (o : OpM) (w : World) (hx : LineR.at_ w D cs x) (ho : OpAt oa o) (ha : x.ap.length ≤ 1000) (hb : x.re.length ≤ 1000) (hkd : o.kind = 6) (hst : x.st = 0) (hup : rising x.ap = true) (hv : (x.vr == o.vr && x.vn == o.vn) = true) :
    Calls Try.prog 9 #[.agg cs.toArray, .agg oa] w fun e w' => ∃ cs', e = .returned (.tuple #[.agg cs'.toArray, .int .i64 0]) ∧ LineR.at_ w' (dom D w.heap.size [] w') cs' { x with ap := ins x.ap o.who } ∧ Below w.heap.size w w' := by
  have hk : 0 ≤ kidx o.kind := by rw [hkd]; decide
  have hki : kidx o.kind = 2 := by rw [hkd]; decide
  have HKI := hide hki
  have hsb : (x.st != 0) = false := by simp [hst]
  clear hst hki hkd
  obtain ⟨A, c, A', c', rfl, hx1, hx2⟩ := hx
  have HO := hide ho
  have hcs := hide ho.kind
  clear ho
  go_enter Try.func9, Try.ntmps9
  go_wp2_with fail
  refine at_call3 w.heap.size 27 (w.heap.size + 1) 33 (w.heap.size + 1 + 1) 27 (fun W => Below w.heap.size w W) (((Blk.new _ _ _).alloc _).alloc _) ((Blk.new_ (by simp)).alloc _) (Blk.new_ (by simp)) ((((Below.refl _ _).alloc (Nat.le_refl _) _).alloc (by simp) _).alloc (by simp <;> omega) _) ?_
  rintro W k0 k1 k2 b0
  have hx1 := U32s.boxed (U32s.start hx1) b0 (L' := [w.heap.size, w.heap.size + 1, w.heap.size + 1 + 1]) (by simp <;> omega)
  have hx2 := U32s.boxed (U32s.start hx2) b0 (L' := [w.heap.size, w.heap.size + 1, w.heap.size + 1 + 1]) (by simp <;> omega)
  refine (acts_any W).mono ?_
  rintro e w1 ⟨rfl, hb1⟩
  have K0 := hide (k0.after hb1)
  have K1 := hide (k1.after hb1)
  have K2 := hide (k2.after hb1)
  have X1 := hide (U32s.after hx1 hb1)
  have X2 := hide (U32s.after hx2 hb1)
  have B1 := hide (b0.trans (hb1.mono b0.size))
  clear k0 k1 k2 b0 hb1 hx1 hx2
  go_wp2_with fail
  refine at_call4 w.heap.size 27 (w.heap.size + 1) 33 (w.heap.size + 1 + 1) 27 w1.heap.size 55 (fun W => Below w.heap.size w W ∧ Below w1.heap.size w1 W) (K0.out.alloc _) (K1.out.alloc _) (K2.out.alloc _) (Blk.new _ _ _) ⟨B1.out.alloc B1.out.size _, (Below.refl _ _).alloc (Nat.le_refl _) _⟩ ?_
  rintro W1 k0 k1 k2 k3 ⟨b1, b1'⟩
  refine (kindex_any W1 _ _ _ oa o.kind k1 hcs.out k3).mono ?_
  rintro e w2 ⟨rfl, hb2⟩
  have Y1 := hide (U32s.boxed X1.out (b1'.trans (hb2.mono b1'.size)) (L' := [w.heap.size, w.heap.size + 1, w.heap.size + 1 + 1, w1.heap.size]) (by simp <;> omega))
  have Y2 := hide (U32s.boxed X2.out (b1'.trans (hb2.mono b1'.size)) (L' := [w.heap.size, w.heap.size + 1, w.heap.size + 1 + 1, w1.heap.size]) (by simp <;> omega))
  have M0 := hide (k0.after hb2)
  have M1 := hide (k1.after hb2)
  have M2 := hide (k2.after hb2)
  have M3 := hide (k3.after hb2)
  have B2 := hide (b1.trans (hb2.mono b1.size))
  clear k0 k1 k2 k3 b1 b1' hb2 K0 K1 K2 X1 X2 B1
  obtain ⟨c0, f0⟩ := M0.out.rules
  obtain ⟨c2, f2⟩ := M2.out.rules
  have l2 := M2.out.lt
  have l3 := M3.out.lt
  have hki := HKI.out
  go_wp2_with fail
  have HL4 : Hid (∀ g ∈ [w.heap.size, w.heap.size + 1, w.heap.size + 1 + 1, w1.heap.size], g < w2.heap.size) := by intro g hg; simp at hg; omega
  refine (copied_any _ _ x _ ⟨A, c, A', c', rfl, Y1.out, Y2.out⟩ (by omega) (by omega)).mono ?_
  rintro e w3 ⟨cs3, rfl, h3, hb3⟩
  obtain ⟨A3, a3, A3', a3', rfl, y1, y2⟩ := LineR.called h3 HL4.out B2.out.size
  have V1 := hide y1
  have V2 := hide y2
  have X1 := hide (U32s.after Y1.out hb3)
  have X2 := hide (U32s.after Y2.out hb3)
  have N0 := hide (M0.out.after hb3)
  have N1 := hide (M1.out.after hb3)
  have N2 := hide (M2.out.after hb3)
  have N3 := hide (M3.out.after hb3)
  have B3 := hide (B2.out.trans (hb3.mono B2.out.size))
  have z3 := hb3.size
  clear h3 hb3 y1 y2 M0 M1 M2 M3 Y1 Y2 B2 c0 f0 c2 f2
  go_wp2_with fail
  refine at_code5 w.heap.size 27 (w.heap.size + 1) 33 (w.heap.size + 1 + 1) 27 w1.heap.size 55 w3.heap.size 27 (fun W => Below w.heap.size w W ∧ Below w3.heap.size w3 W) (N0.out.alloc _) (N1.out.alloc _) (N2.out.alloc _) (N3.out.alloc _) (Blk.new _ _ _) ⟨B3.out.alloc B3.out.size _, (Below.refl _ _).alloc (Nat.le_refl _) _⟩ ?_
  rintro W3 k0 k1 k2 k3 k4 ⟨b3, b3'⟩
  have W1_ := hide (U32s.boxed V1.out b3' (L' := [w.heap.size, w.heap.size + 1, w.heap.size + 1 + 1, w1.heap.size, w3.heap.size]) (by simp <;> omega))
  have W2_ := hide (U32s.boxed V2.out b3' (L' := [w.heap.size, w.heap.size + 1, w.heap.size + 1 + 1, w1.heap.size, w3.heap.size]) (by simp <;> omega))
  have X1_ := hide (U32s.boxed X1.out b3' (L' := [w.heap.size, w.heap.size + 1, w.heap.size + 1 + 1, w1.heap.size, w3.heap.size]) (by simp <;> omega))
  have X2_ := hide (U32s.boxed X2.out b3' (L' := [w.heap.size, w.heap.size + 1, w.heap.size + 1 + 1, w1.heap.size, w3.heap.size]) (by simp <;> omega))
  clear V1 V2 X1 X2 N0 N1 N2 N3 B3
  have M0 := hide k0
  have M1 := hide k1
  have M2 := hide k2
  have M3 := hide k3
  have M4 := hide k4
  have B3 := hide b3
  obtain ⟨c0, f0⟩ := k0.rules
  obtain ⟨c2, f2⟩ := k2.rules
  obtain ⟨c3, f3⟩ := k3.rules
  obtain ⟨c4, f4⟩ := k4.rules
  have l0 := k0.lt
  have l1 := k1.lt
  have l2 := k2.lt
  have l3 := k3.lt
  have l4 := k4.lt
  have z4 := b3.size
  clear k0 k1 k2 k3 k4 b3 b3'
  have s0 : Below W3.heap.size W3 W3.drew := (Below.refl _ _).drew
  refine wp_region_seq [(0, 2), (1, 1), (2, 2), (3, 2), (4, 2), (5, 2), (6, 2), (7, 1), (8, 1), (9, 0), (10, 2), (11, 2)] (fun j => !(j == 9)) (fun w' => Below W3.heap.size W3 w') (by kernel_rfl) (by kernel_rfl) ?_
  intro ops hops
  have HOPS := hide hops
  clear hops
  refine wpSeq_pure (o := ?ro37) (v := ?rv37) ?rh37 ?rg37 ?rq37 ?ry37 ?_
  case rh37 => rw [HOPS.out]; simp only [List.getElem?_toArray, List.getElem?_cons_succ, List.getElem?_cons_zero]; exact rfl
  case rg37 => rfl
  case rq37 => exact fun _ _ _ h => h
  case ry37 => intro w'; go_simp; try with_reducible rfl
  simp only [Act.put, List.setIfInBounds_toArray, List.set_cons_succ, List.set_cons_zero]
  refine wpSeq_read (o := ?ro38) (v := ?rv38) ?rh38 ?rg38 ?rq38 s0 ?ry38 ?_
  case rh38 => rw [HOPS.out]; simp only [List.getElem?_toArray, List.getElem?_cons_succ, List.getElem?_cons_zero]; exact rfl
  case rg38 => rfl
  case rq38 => exact fun _ _ _ h => h
  case ry38 => intro w' hs; obtain ⟨cc, ff⟩ := bcell hs; go_simp; try with_reducible rfl
  simp only [Act.put, List.setIfInBounds_toArray, List.set_cons_succ, List.set_cons_zero]
  refine wpSeq_pure (o := ?ro39) (v := ?rv39) ?rh39 ?rg39 ?rq39 ?ry39 ?_
  case rh39 => rw [HOPS.out]; simp only [List.getElem?_toArray, List.getElem?_cons_succ, List.getElem?_cons_zero]; exact rfl
  case rg39 => rfl
  case rq39 => exact fun _ _ _ h => h
  case ry39 => intro w'; go_simp; try with_reducible rfl
  simp only [Act.put, List.setIfInBounds_toArray, List.set_cons_succ, List.set_cons_zero]
  refine wpSeq_pure (o := ?ro40) (v := ?rv40) ?rh40 ?rg40 ?rq40 ?ry40 ?_
  case rh40 => rw [HOPS.out]; simp only [List.getElem?_toArray, List.getElem?_cons_succ, List.getElem?_cons_zero]; exact rfl
  case rg40 => rfl
  case rq40 => exact fun _ _ _ h => h
  case ry40 => intro w'; go_simp; try with_reducible rfl
  simp only [Act.put, List.setIfInBounds_toArray, List.set_cons_succ, List.set_cons_zero]
  refine wpSeq_pure (o := ?ro41) (v := ?rv41) ?rh41 ?rg41 ?rq41 ?ry41 ?_
  case rh41 => rw [HOPS.out]; simp only [List.getElem?_toArray, List.getElem?_cons_succ, List.getElem?_cons_zero]; exact rfl
  case rg41 => rw [HOPS.out]; rfl
  case rq41 => exact fun _ _ _ h => h
  case ry41 => intro w'; go_simp; try with_reducible rfl
  simp only [Act.put, List.setIfInBounds_toArray, List.set_cons_succ, List.set_cons_zero]
  refine wpSeq_pure (o := ?ro42) (v := ?rv42) ?rh42 ?rg42 ?rq42 ?ry42 ?_
  case rh42 => rw [HOPS.out]; simp only [List.getElem?_toArray, List.getElem?_cons_succ, List.getElem?_cons_zero]; exact rfl
  case rg42 => rw [HOPS.out]; rfl
  case rq42 => exact fun _ _ _ h => h
  case ry42 => intro w'; go_simp; try with_reducible rfl
  simp only [Act.put, List.setIfInBounds_toArray, List.set_cons_succ, List.set_cons_zero]
  refine wpSeq_pure (o := ?ro43) (v := ?rv43) ?rh43 ?rg43 ?rq43 ?ry43 ?_
  case rh43 => rw [HOPS.out]; simp only [List.getElem?_toArray, List.getElem?_cons_succ, List.getElem?_cons_zero]; exact rfl
  case rg43 => rw [HOPS.out]; rfl
  case rq43 => exact fun _ _ _ h => h
  case ry43 => intro w'; go_simp; try with_reducible rfl
  simp only [Act.put, List.setIfInBounds_toArray, List.set_cons_succ, List.set_cons_zero]
  refine wpSeq_read (o := ?ro44) (v := ?rv44) ?rh44 ?rg44 ?rq44 s0 ?ry44 ?_
  case rh44 => rw [HOPS.out]; simp only [List.getElem?_toArray, List.getElem?_cons_succ, List.getElem?_cons_zero]; exact rfl
  case rg44 => rw [HOPS.out]; rfl
  case rq44 => exact fun _ _ _ h => h
  case ry44 => intro w' hs; obtain ⟨cc, ff⟩ := bcell hs; go_simp; try with_reducible rfl
  simp only [Act.put, List.setIfInBounds_toArray, List.set_cons_succ, List.set_cons_zero]
  refine wpSeq_read (o := ?ro45) (v := ?rv45) ?rh45 ?rg45 ?rq45 s0 ?ry45 ?_
  case rh45 => rw [HOPS.out]; simp only [List.getElem?_toArray, List.getElem?_cons_succ, List.getElem?_cons_zero]; exact rfl
  case rg45 => rw [HOPS.out]; rfl
  case rq45 => exact fun _ _ _ h => h
  case ry45 => intro w' hs; obtain ⟨cc, ff⟩ := bcell hs; refine exec_load_row (ρ := Act.eval _) 33 (.tmp 3) ?_ (w.heap.size + 1) ?_ 33 oa _ (M1.out.after hs) Try.underlying33 rfl (by rw [HO.out.size]; kernel_rfl) <;> rfl; try with_reducible rfl
  simp only [Act.put, List.setIfInBounds_toArray, List.set_cons_succ, List.set_cons_zero]
  refine wpSeq_step (o := ?ro46) ?rh46 (fun K hK => ?_)
  case rh46 => rw [HOPS.out]; simp only [List.getElem?_toArray, List.getElem?_cons_succ, List.getElem?_cons_zero]; exact rfl
  rw [HOPS.out]
  go_simp
  refine (acts3_any (dom D w.heap.size [w.heap.size, w.heap.size + 1, w.heap.size + 1 + 1, w1.heap.size, w3.heap.size] W3.drew) w.heap.size _ oa _ M0.out.drew rfl (not_dom_box (by simp)) _ x.ap rfl (Rp.drew_ _ X1_.out) hup (by omega) o.who x.vr x.vn o.vr o.vn rfl rfl HO.out.who HO.out.vr HO.out.vn).mono ?_
  rintro e w4 ⟨A9, a9, rfl, hk4, hr4, hg4⟩
  simp at hk4
  have HL3 : Hid (∀ g ∈ [w.heap.size, w.heap.size + 1, w.heap.size + 1 + 1, w1.heap.size, w3.heap.size], g < W3.drew.heap.size) := by intro g hg; simp at hg ⊢; omega
  have R4 := hide (U32s.called hr4 HL3.out z4)
  clear hr4
  have hg4 := undrewG hg4
  have P2 := hide (M2.out.grown hg4 (by omega))
  have P4 := hide (M4.out.grown hg4 (by omega))
  have V1 := hide (Rp.grown_ _ W1_.out hg4 (by simp))
  have V2 := hide (Rp.grown_ _ W2_.out hg4 (by simp))
  have U1 := hide (Rp.grown_ _ X1_.out hg4 (by simp))
  have U2 := hide (Rp.grown_ _ X2_.out hg4 (by simp))
  have B4 := hide (below_grown0 B3.out hg4 (Nat.le_refl _) z4)
  have z5 := hg4.size
  have P0 := hide hk4
  obtain ⟨d0, e0⟩ := P0.out.rules
  obtain ⟨d2, e2⟩ := P2.out.rules
  obtain ⟨d4, e4⟩ := P4.out.rules
  clear hk4 hg4 c0 f0 c2 f2 c3 f3 c4 f4 W1_ W2_ X1_ X2_
  refine hK _ _ (fun h => by cases h) ?_
  clear hK K
  refine wpSeq_pure (o := ?ro47) (v := ?rv47) ?rh47 ?rg47 ?rq47 ?ry47 ?_
  case rh47 => rw [HOPS.out]; simp only [List.getElem?_toArray, List.getElem?_cons_succ, List.getElem?_cons_zero]; exact rfl
  case rg47 => rw [HOPS.out]; rfl
  case rq47 => exact fun _ _ _ h => h
  case ry47 => intro w'; go_simp; try with_reducible rfl
  simp only [Act.put, List.setIfInBounds_toArray, List.set_cons_succ, List.set_cons_zero]
  refine wpSeq_pure (o := ?ro48) (v := ?rv48) ?rh48 ?rg48 ?rq48 ?ry48 ?_
  case rh48 => rw [HOPS.out]; simp only [List.getElem?_toArray, List.getElem?_cons_succ, List.getElem?_cons_zero]; exact rfl
  case rg48 => rfl
  case rq48 => exact fun _ _ _ h => h
  case ry48 => intro w'; go_simp; try with_reducible rfl
  simp only [Act.put, List.setIfInBounds_toArray, List.set_cons_succ, List.set_cons_zero]
  refine wpSeq_nil ?_
  go_wp2_with fail
  have HL5 : Hid (∀ g ∈ [w.heap.size, w.heap.size + 1, w.heap.size + 1 + 1, w1.heap.size, w3.heap.size], g < w4.heap.size) := by intro g hg; simp at hg; omega
  refine (copied_any (dom D w.heap.size [w.heap.size, w.heap.size + 1, w.heap.size + 1 + 1, w1.heap.size, w3.heap.size] w4) _ { x with ap := ins x.ap o.who } _ ⟨_, _, _, _, rfl, R4.out, U2.out⟩ (by show (ins x.ap o.who).length ≤ _; have := ins_len_le x.ap o.who; omega) (by show x.re.length ≤ _; omega)).mono ?_
  rintro e w5 ⟨cs5, rfl, h5, hb5⟩
  obtain ⟨A5, a5, A5', a5', rfl, y1, y2⟩ := LineR.called h5 HL5.out B4.out.size
  have V3 := hide y1
  have V4 := hide y2
  have Q2 := hide (P2.out.after hb5)
  have B5 := hide (B4.out.trans (hb5.mono B4.out.size))
  obtain ⟨q2, r2⟩ := Q2.out.rules
  clear h5 hb5 y1 y2 d0 e0 d2 e2 d4 e4
  go_wp2_with fail
  refine bodyPost_ret (v := .tuple #[.agg #[.int .u8 x.r, .int .u32 x.n, .int .u32 x.item, .int .u32 x.qty, .int .u32 x.price, .int .u8 x.vr, .int .u32 x.vn, .slice A5 (ins x.ap o.who).length a5, .slice A5' x.re.length a5', .int .u8 x.st], .int .i64 0]) (by simp [results, Try.results9, go_sem, q2, r2]) rfl ⟨_, rfl, ⟨A5, a5, A5', a5', rfl, ?_, ?_⟩, ?_⟩
  · refine Rp.ends _ (L := [w.heap.size, w.heap.size + 1, w.heap.size + 1 + 1, w1.heap.size, w3.heap.size]) ?_
    repeat (first | with_reducible refine Rp.drew_ _ ?_ | with_reducible refine Rp.stored _ ?_ (by simp) _)
    exact V3.out
  · refine Rp.ends _ (L := [w.heap.size, w.heap.size + 1, w.heap.size + 1 + 1, w1.heap.size, w3.heap.size]) ?_
    repeat (first | with_reducible refine Rp.drew_ _ ?_ | with_reducible refine Rp.stored _ ?_ (by simp) _)
    exact V4.out
  · repeat (first | with_reducible refine Below.drew ?_ | with_reducible refine Below.setCell ?_ (by simp <;> omega) _)
    exact B5.out

set_option maxHeartbeats 1000000 in
theorem act_approve_stale (D : Nat → Prop) (cs : List Value) (oa : Array Value) (x : LineM) (o : OpM) (w : World) (hx : LineR.at_ w D cs x) (ho : OpAt oa o) (ha : x.ap.length ≤ 1000) (hb : x.re.length ≤ 1000) (hkd : o.kind = 6) (hst : x.st = 0) (hup : rising x.ap = true) (hv : (x.vr == o.vr && x.vn == o.vn) = false) :
    Calls Try.prog 9 #[.agg cs.toArray, .agg oa] w fun e w' => ∃ cs', e = .returned (.tuple #[.agg cs'.toArray, .int .i64 278]) ∧ LineR.at_ w' (dom D w.heap.size [] w') cs' x ∧ Below w.heap.size w w' := by
  have hk : 0 ≤ kidx o.kind := by rw [hkd]; decide
  have hki : kidx o.kind = 2 := by rw [hkd]; decide
  have HKI := hide hki
  have hsb : (x.st != 0) = false := by simp [hst]
  clear hst hki hkd
  obtain ⟨A, c, A', c', rfl, hx1, hx2⟩ := hx
  have HO := hide ho
  have hcs := hide ho.kind
  clear ho
  go_enter Try.func9, Try.ntmps9
  go_wp2_with fail
  refine at_call3 w.heap.size 27 (w.heap.size + 1) 33 (w.heap.size + 1 + 1) 27 (fun W => Below w.heap.size w W) (((Blk.new _ _ _).alloc _).alloc _) ((Blk.new_ (by simp)).alloc _) (Blk.new_ (by simp)) ((((Below.refl _ _).alloc (Nat.le_refl _) _).alloc (by simp) _).alloc (by simp <;> omega) _) ?_
  rintro W k0 k1 k2 b0
  have hx1 := U32s.boxed (U32s.start hx1) b0 (L' := [w.heap.size, w.heap.size + 1, w.heap.size + 1 + 1]) (by simp <;> omega)
  have hx2 := U32s.boxed (U32s.start hx2) b0 (L' := [w.heap.size, w.heap.size + 1, w.heap.size + 1 + 1]) (by simp <;> omega)
  refine (acts_any W).mono ?_
  rintro e w1 ⟨rfl, hb1⟩
  have K0 := hide (k0.after hb1)
  have K1 := hide (k1.after hb1)
  have K2 := hide (k2.after hb1)
  have X1 := hide (U32s.after hx1 hb1)
  have X2 := hide (U32s.after hx2 hb1)
  have B1 := hide (b0.trans (hb1.mono b0.size))
  clear k0 k1 k2 b0 hb1 hx1 hx2
  go_wp2_with fail
  refine at_call4 w.heap.size 27 (w.heap.size + 1) 33 (w.heap.size + 1 + 1) 27 w1.heap.size 55 (fun W => Below w.heap.size w W ∧ Below w1.heap.size w1 W) (K0.out.alloc _) (K1.out.alloc _) (K2.out.alloc _) (Blk.new _ _ _) ⟨B1.out.alloc B1.out.size _, (Below.refl _ _).alloc (Nat.le_refl _) _⟩ ?_
  rintro W1 k0 k1 k2 k3 ⟨b1, b1'⟩
  refine (kindex_any W1 _ _ _ oa o.kind k1 hcs.out k3).mono ?_
  rintro e w2 ⟨rfl, hb2⟩
  have Y1 := hide (U32s.boxed X1.out (b1'.trans (hb2.mono b1'.size)) (L' := [w.heap.size, w.heap.size + 1, w.heap.size + 1 + 1, w1.heap.size]) (by simp <;> omega))
  have Y2 := hide (U32s.boxed X2.out (b1'.trans (hb2.mono b1'.size)) (L' := [w.heap.size, w.heap.size + 1, w.heap.size + 1 + 1, w1.heap.size]) (by simp <;> omega))
  have M0 := hide (k0.after hb2)
  have M1 := hide (k1.after hb2)
  have M2 := hide (k2.after hb2)
  have M3 := hide (k3.after hb2)
  have B2 := hide (b1.trans (hb2.mono b1.size))
  clear k0 k1 k2 k3 b1 b1' hb2 K0 K1 K2 X1 X2 B1
  obtain ⟨c0, f0⟩ := M0.out.rules
  obtain ⟨c2, f2⟩ := M2.out.rules
  have l2 := M2.out.lt
  have l3 := M3.out.lt
  have hki := HKI.out
  go_wp2_with fail
  have HL4 : Hid (∀ g ∈ [w.heap.size, w.heap.size + 1, w.heap.size + 1 + 1, w1.heap.size], g < w2.heap.size) := by intro g hg; simp at hg; omega
  refine (copied_any _ _ x _ ⟨A, c, A', c', rfl, Y1.out, Y2.out⟩ (by omega) (by omega)).mono ?_
  rintro e w3 ⟨cs3, rfl, h3, hb3⟩
  obtain ⟨A3, a3, A3', a3', rfl, y1, y2⟩ := LineR.called h3 HL4.out B2.out.size
  have V1 := hide y1
  have V2 := hide y2
  have X1 := hide (U32s.after Y1.out hb3)
  have X2 := hide (U32s.after Y2.out hb3)
  have N0 := hide (M0.out.after hb3)
  have N1 := hide (M1.out.after hb3)
  have N2 := hide (M2.out.after hb3)
  have N3 := hide (M3.out.after hb3)
  have B3 := hide (B2.out.trans (hb3.mono B2.out.size))
  have z3 := hb3.size
  clear h3 hb3 y1 y2 M0 M1 M2 M3 Y1 Y2 B2 c0 f0 c2 f2
  go_wp2_with fail
  refine at_code5 w.heap.size 27 (w.heap.size + 1) 33 (w.heap.size + 1 + 1) 27 w1.heap.size 55 w3.heap.size 27 (fun W => Below w.heap.size w W ∧ Below w3.heap.size w3 W) (N0.out.alloc _) (N1.out.alloc _) (N2.out.alloc _) (N3.out.alloc _) (Blk.new _ _ _) ⟨B3.out.alloc B3.out.size _, (Below.refl _ _).alloc (Nat.le_refl _) _⟩ ?_
  rintro W3 k0 k1 k2 k3 k4 ⟨b3, b3'⟩
  have W1_ := hide (U32s.boxed V1.out b3' (L' := [w.heap.size, w.heap.size + 1, w.heap.size + 1 + 1, w1.heap.size, w3.heap.size]) (by simp <;> omega))
  have W2_ := hide (U32s.boxed V2.out b3' (L' := [w.heap.size, w.heap.size + 1, w.heap.size + 1 + 1, w1.heap.size, w3.heap.size]) (by simp <;> omega))
  have X1_ := hide (U32s.boxed X1.out b3' (L' := [w.heap.size, w.heap.size + 1, w.heap.size + 1 + 1, w1.heap.size, w3.heap.size]) (by simp <;> omega))
  have X2_ := hide (U32s.boxed X2.out b3' (L' := [w.heap.size, w.heap.size + 1, w.heap.size + 1 + 1, w1.heap.size, w3.heap.size]) (by simp <;> omega))
  clear V1 V2 X1 X2 N0 N1 N2 N3 B3
  have M0 := hide k0
  have M1 := hide k1
  have M2 := hide k2
  have M3 := hide k3
  have M4 := hide k4
  have B3 := hide b3
  obtain ⟨c0, f0⟩ := k0.rules
  obtain ⟨c2, f2⟩ := k2.rules
  obtain ⟨c3, f3⟩ := k3.rules
  obtain ⟨c4, f4⟩ := k4.rules
  have l0 := k0.lt
  have l1 := k1.lt
  have l2 := k2.lt
  have l3 := k3.lt
  have l4 := k4.lt
  have z4 := b3.size
  clear k0 k1 k2 k3 k4 b3 b3'
  have s0 : Below W3.heap.size W3 W3.drew := (Below.refl _ _).drew
  refine wp_region_seq [(0, 2), (1, 1), (2, 2), (3, 2), (4, 2), (5, 2), (6, 2), (7, 1), (8, 1), (9, 0), (10, 2), (11, 2)] (fun j => !(j == 9)) (fun w' => Below W3.heap.size W3 w') (by kernel_rfl) (by kernel_rfl) ?_
  intro ops hops
  have HOPS := hide hops
  clear hops
  refine wpSeq_pure (o := ?ro49) (v := ?rv49) ?rh49 ?rg49 ?rq49 ?ry49 ?_
  case rh49 => rw [HOPS.out]; simp only [List.getElem?_toArray, List.getElem?_cons_succ, List.getElem?_cons_zero]; exact rfl
  case rg49 => rfl
  case rq49 => exact fun _ _ _ h => h
  case ry49 => intro w'; go_simp; try with_reducible rfl
  simp only [Act.put, List.setIfInBounds_toArray, List.set_cons_succ, List.set_cons_zero]
  refine wpSeq_read (o := ?ro50) (v := ?rv50) ?rh50 ?rg50 ?rq50 s0 ?ry50 ?_
  case rh50 => rw [HOPS.out]; simp only [List.getElem?_toArray, List.getElem?_cons_succ, List.getElem?_cons_zero]; exact rfl
  case rg50 => rfl
  case rq50 => exact fun _ _ _ h => h
  case ry50 => intro w' hs; obtain ⟨cc, ff⟩ := bcell hs; go_simp; try with_reducible rfl
  simp only [Act.put, List.setIfInBounds_toArray, List.set_cons_succ, List.set_cons_zero]
  refine wpSeq_pure (o := ?ro51) (v := ?rv51) ?rh51 ?rg51 ?rq51 ?ry51 ?_
  case rh51 => rw [HOPS.out]; simp only [List.getElem?_toArray, List.getElem?_cons_succ, List.getElem?_cons_zero]; exact rfl
  case rg51 => rfl
  case rq51 => exact fun _ _ _ h => h
  case ry51 => intro w'; go_simp; try with_reducible rfl
  simp only [Act.put, List.setIfInBounds_toArray, List.set_cons_succ, List.set_cons_zero]
  refine wpSeq_pure (o := ?ro52) (v := ?rv52) ?rh52 ?rg52 ?rq52 ?ry52 ?_
  case rh52 => rw [HOPS.out]; simp only [List.getElem?_toArray, List.getElem?_cons_succ, List.getElem?_cons_zero]; exact rfl
  case rg52 => rfl
  case rq52 => exact fun _ _ _ h => h
  case ry52 => intro w'; go_simp; try with_reducible rfl
  simp only [Act.put, List.setIfInBounds_toArray, List.set_cons_succ, List.set_cons_zero]
  refine wpSeq_pure (o := ?ro53) (v := ?rv53) ?rh53 ?rg53 ?rq53 ?ry53 ?_
  case rh53 => rw [HOPS.out]; simp only [List.getElem?_toArray, List.getElem?_cons_succ, List.getElem?_cons_zero]; exact rfl
  case rg53 => rw [HOPS.out]; rfl
  case rq53 => exact fun _ _ _ h => h
  case ry53 => intro w'; go_simp; try with_reducible rfl
  simp only [Act.put, List.setIfInBounds_toArray, List.set_cons_succ, List.set_cons_zero]
  refine wpSeq_pure (o := ?ro54) (v := ?rv54) ?rh54 ?rg54 ?rq54 ?ry54 ?_
  case rh54 => rw [HOPS.out]; simp only [List.getElem?_toArray, List.getElem?_cons_succ, List.getElem?_cons_zero]; exact rfl
  case rg54 => rw [HOPS.out]; rfl
  case rq54 => exact fun _ _ _ h => h
  case ry54 => intro w'; go_simp; try with_reducible rfl
  simp only [Act.put, List.setIfInBounds_toArray, List.set_cons_succ, List.set_cons_zero]
  refine wpSeq_pure (o := ?ro55) (v := ?rv55) ?rh55 ?rg55 ?rq55 ?ry55 ?_
  case rh55 => rw [HOPS.out]; simp only [List.getElem?_toArray, List.getElem?_cons_succ, List.getElem?_cons_zero]; exact rfl
  case rg55 => rw [HOPS.out]; rfl
  case rq55 => exact fun _ _ _ h => h
  case ry55 => intro w'; go_simp; try with_reducible rfl
  simp only [Act.put, List.setIfInBounds_toArray, List.set_cons_succ, List.set_cons_zero]
  refine wpSeq_read (o := ?ro56) (v := ?rv56) ?rh56 ?rg56 ?rq56 s0 ?ry56 ?_
  case rh56 => rw [HOPS.out]; simp only [List.getElem?_toArray, List.getElem?_cons_succ, List.getElem?_cons_zero]; exact rfl
  case rg56 => rw [HOPS.out]; rfl
  case rq56 => exact fun _ _ _ h => h
  case ry56 => intro w' hs; obtain ⟨cc, ff⟩ := bcell hs; go_simp; try with_reducible rfl
  simp only [Act.put, List.setIfInBounds_toArray, List.set_cons_succ, List.set_cons_zero]
  refine wpSeq_read (o := ?ro57) (v := ?rv57) ?rh57 ?rg57 ?rq57 s0 ?ry57 ?_
  case rh57 => rw [HOPS.out]; simp only [List.getElem?_toArray, List.getElem?_cons_succ, List.getElem?_cons_zero]; exact rfl
  case rg57 => rw [HOPS.out]; rfl
  case rq57 => exact fun _ _ _ h => h
  case ry57 => intro w' hs; obtain ⟨cc, ff⟩ := bcell hs; refine exec_load_row (ρ := Act.eval _) 33 (.tmp 3) ?_ (w.heap.size + 1) ?_ 33 oa _ (M1.out.after hs) Try.underlying33 rfl (by rw [HO.out.size]; kernel_rfl) <;> rfl; try with_reducible rfl
  simp only [Act.put, List.setIfInBounds_toArray, List.set_cons_succ, List.set_cons_zero]
  refine wpSeq_step (o := ?ro58) ?rh58 (fun K hK => ?_)
  case rh58 => rw [HOPS.out]; simp only [List.getElem?_toArray, List.getElem?_cons_succ, List.getElem?_cons_zero]; exact rfl
  rw [HOPS.out]
  go_simp
  refine (acts3_any (dom D w.heap.size [w.heap.size, w.heap.size + 1, w.heap.size + 1 + 1, w1.heap.size, w3.heap.size] W3.drew) w.heap.size _ oa _ M0.out.drew rfl (not_dom_box (by simp)) _ x.ap rfl (Rp.drew_ _ X1_.out) hup (by omega) o.who x.vr x.vn o.vr o.vn rfl rfl HO.out.who HO.out.vr HO.out.vn).mono ?_
  rintro e w4 ⟨A9, a9, rfl, hk4, hr4, hg4⟩
  simp at hk4
  have HL3 : Hid (∀ g ∈ [w.heap.size, w.heap.size + 1, w.heap.size + 1 + 1, w1.heap.size, w3.heap.size], g < W3.drew.heap.size) := by intro g hg; simp at hg ⊢; omega
  have R4 := hide (U32s.called hr4 HL3.out z4)
  clear hr4
  have hg4 := undrewG hg4
  have P2 := hide (M2.out.grown hg4 (by omega))
  have P4 := hide (M4.out.grown hg4 (by omega))
  have V1 := hide (Rp.grown_ _ W1_.out hg4 (by simp))
  have V2 := hide (Rp.grown_ _ W2_.out hg4 (by simp))
  have U1 := hide (Rp.grown_ _ X1_.out hg4 (by simp))
  have U2 := hide (Rp.grown_ _ X2_.out hg4 (by simp))
  have B4 := hide (below_grown0 B3.out hg4 (Nat.le_refl _) z4)
  have z5 := hg4.size
  have P0 := hide hk4
  obtain ⟨d0, e0⟩ := P0.out.rules
  obtain ⟨d2, e2⟩ := P2.out.rules
  obtain ⟨d4, e4⟩ := P4.out.rules
  clear hk4 hg4 c0 f0 c2 f2 c3 f3 c4 f4 W1_ W2_ X1_ X2_
  refine hK _ _ (fun h => by cases h) ?_
  clear hK K
  refine wpSeq_pure (o := ?ro59) (v := ?rv59) ?rh59 ?rg59 ?rq59 ?ry59 ?_
  case rh59 => rw [HOPS.out]; simp only [List.getElem?_toArray, List.getElem?_cons_succ, List.getElem?_cons_zero]; exact rfl
  case rg59 => rw [HOPS.out]; rfl
  case rq59 => exact fun _ _ _ h => h
  case ry59 => intro w'; go_simp; try with_reducible rfl
  simp only [Act.put, List.setIfInBounds_toArray, List.set_cons_succ, List.set_cons_zero]
  refine wpSeq_pure (o := ?ro60) (v := ?rv60) ?rh60 ?rg60 ?rq60 ?ry60 ?_
  case rh60 => rw [HOPS.out]; simp only [List.getElem?_toArray, List.getElem?_cons_succ, List.getElem?_cons_zero]; exact rfl
  case rg60 => rfl
  case rq60 => exact fun _ _ _ h => h
  case ry60 => intro w'; go_simp; try with_reducible rfl
  simp only [Act.put, List.setIfInBounds_toArray, List.set_cons_succ, List.set_cons_zero]
  refine wpSeq_nil ?_
  go_wp2_with fail
  refine bodyPost_ret (v := .tuple #[.agg #[.int .u8 x.r, .int .u32 x.n, .int .u32 x.item, .int .u32 x.qty, .int .u32 x.price, .int .u8 x.vr, .int .u32 x.vn, .slice A3 x.ap.length a3, .slice A3' x.re.length a3', .int .u8 x.st], .int .i64 278]) (by simp [results, Try.results9, go_sem, d2, e2]) rfl ⟨_, rfl, ⟨A3, a3, A3', a3', rfl, ?_, ?_⟩, ?_⟩
  · refine Rp.ends _ (L := [w.heap.size, w.heap.size + 1, w.heap.size + 1 + 1, w1.heap.size, w3.heap.size]) ?_
    repeat (first | with_reducible refine Rp.drew_ _ ?_ | with_reducible refine Rp.stored _ ?_ (by simp) _)
    exact V1.out
  · refine Rp.ends _ (L := [w.heap.size, w.heap.size + 1, w.heap.size + 1 + 1, w1.heap.size, w3.heap.size]) ?_
    repeat (first | with_reducible refine Rp.drew_ _ ?_ | with_reducible refine Rp.stored _ ?_ (by simp) _)
    exact V2.out
  · repeat (first | with_reducible refine Below.drew ?_ | with_reducible refine Below.setCell ?_ (by simp <;> omega) _)
    exact B4.out

set_option maxHeartbeats 1000000 in
theorem act_reject (D : Nat → Prop) (cs : List Value) (oa : Array Value) (x : LineM) (o : OpM) (w : World) (hx : LineR.at_ w D cs x) (ho : OpAt oa o) (ha : x.ap.length ≤ 1000) (hb : x.re.length ≤ 1000) (hkd : o.kind = 7) (hst : x.st = 0) (hup : rising x.re = true) (hv : (x.vr == o.vr && x.vn == o.vn) = true) :
    Calls Try.prog 9 #[.agg cs.toArray, .agg oa] w fun e w' => ∃ cs', e = .returned (.tuple #[.agg cs'.toArray, .int .i64 0]) ∧ LineR.at_ w' (dom D w.heap.size [] w') cs' { x with re := ins x.re o.who } ∧ Below w.heap.size w w' := by
  have hk : 0 ≤ kidx o.kind := by rw [hkd]; decide
  have hki : kidx o.kind = 3 := by rw [hkd]; decide
  have HKI := hide hki
  have hsb : (x.st != 0) = false := by simp [hst]
  clear hst hki hkd
  obtain ⟨A, c, A', c', rfl, hx1, hx2⟩ := hx
  have HO := hide ho
  have hcs := hide ho.kind
  clear ho
  go_enter Try.func9, Try.ntmps9
  go_wp2_with fail
  refine at_call3 w.heap.size 27 (w.heap.size + 1) 33 (w.heap.size + 1 + 1) 27 (fun W => Below w.heap.size w W) (((Blk.new _ _ _).alloc _).alloc _) ((Blk.new_ (by simp)).alloc _) (Blk.new_ (by simp)) ((((Below.refl _ _).alloc (Nat.le_refl _) _).alloc (by simp) _).alloc (by simp <;> omega) _) ?_
  rintro W k0 k1 k2 b0
  have hx1 := U32s.boxed (U32s.start hx1) b0 (L' := [w.heap.size, w.heap.size + 1, w.heap.size + 1 + 1]) (by simp <;> omega)
  have hx2 := U32s.boxed (U32s.start hx2) b0 (L' := [w.heap.size, w.heap.size + 1, w.heap.size + 1 + 1]) (by simp <;> omega)
  refine (acts_any W).mono ?_
  rintro e w1 ⟨rfl, hb1⟩
  have K0 := hide (k0.after hb1)
  have K1 := hide (k1.after hb1)
  have K2 := hide (k2.after hb1)
  have X1 := hide (U32s.after hx1 hb1)
  have X2 := hide (U32s.after hx2 hb1)
  have B1 := hide (b0.trans (hb1.mono b0.size))
  clear k0 k1 k2 b0 hb1 hx1 hx2
  go_wp2_with fail
  refine at_call4 w.heap.size 27 (w.heap.size + 1) 33 (w.heap.size + 1 + 1) 27 w1.heap.size 55 (fun W => Below w.heap.size w W ∧ Below w1.heap.size w1 W) (K0.out.alloc _) (K1.out.alloc _) (K2.out.alloc _) (Blk.new _ _ _) ⟨B1.out.alloc B1.out.size _, (Below.refl _ _).alloc (Nat.le_refl _) _⟩ ?_
  rintro W1 k0 k1 k2 k3 ⟨b1, b1'⟩
  refine (kindex_any W1 _ _ _ oa o.kind k1 hcs.out k3).mono ?_
  rintro e w2 ⟨rfl, hb2⟩
  have Y1 := hide (U32s.boxed X1.out (b1'.trans (hb2.mono b1'.size)) (L' := [w.heap.size, w.heap.size + 1, w.heap.size + 1 + 1, w1.heap.size]) (by simp <;> omega))
  have Y2 := hide (U32s.boxed X2.out (b1'.trans (hb2.mono b1'.size)) (L' := [w.heap.size, w.heap.size + 1, w.heap.size + 1 + 1, w1.heap.size]) (by simp <;> omega))
  have M0 := hide (k0.after hb2)
  have M1 := hide (k1.after hb2)
  have M2 := hide (k2.after hb2)
  have M3 := hide (k3.after hb2)
  have B2 := hide (b1.trans (hb2.mono b1.size))
  clear k0 k1 k2 k3 b1 b1' hb2 K0 K1 K2 X1 X2 B1
  obtain ⟨c0, f0⟩ := M0.out.rules
  obtain ⟨c2, f2⟩ := M2.out.rules
  have l2 := M2.out.lt
  have l3 := M3.out.lt
  have hki := HKI.out
  go_wp2_with fail
  have HL4 : Hid (∀ g ∈ [w.heap.size, w.heap.size + 1, w.heap.size + 1 + 1, w1.heap.size], g < w2.heap.size) := by intro g hg; simp at hg; omega
  refine (copied_any _ _ x _ ⟨A, c, A', c', rfl, Y1.out, Y2.out⟩ (by omega) (by omega)).mono ?_
  rintro e w3 ⟨cs3, rfl, h3, hb3⟩
  obtain ⟨A3, a3, A3', a3', rfl, y1, y2⟩ := LineR.called h3 HL4.out B2.out.size
  have V1 := hide y1
  have V2 := hide y2
  have X1 := hide (U32s.after Y1.out hb3)
  have X2 := hide (U32s.after Y2.out hb3)
  have N0 := hide (M0.out.after hb3)
  have N1 := hide (M1.out.after hb3)
  have N2 := hide (M2.out.after hb3)
  have N3 := hide (M3.out.after hb3)
  have B3 := hide (B2.out.trans (hb3.mono B2.out.size))
  have z3 := hb3.size
  clear h3 hb3 y1 y2 M0 M1 M2 M3 Y1 Y2 B2 c0 f0 c2 f2
  go_wp2_with fail
  refine at_code5 w.heap.size 27 (w.heap.size + 1) 33 (w.heap.size + 1 + 1) 27 w1.heap.size 55 w3.heap.size 27 (fun W => Below w.heap.size w W ∧ Below w3.heap.size w3 W) (N0.out.alloc _) (N1.out.alloc _) (N2.out.alloc _) (N3.out.alloc _) (Blk.new _ _ _) ⟨B3.out.alloc B3.out.size _, (Below.refl _ _).alloc (Nat.le_refl _) _⟩ ?_
  rintro W3 k0 k1 k2 k3 k4 ⟨b3, b3'⟩
  have W1_ := hide (U32s.boxed V1.out b3' (L' := [w.heap.size, w.heap.size + 1, w.heap.size + 1 + 1, w1.heap.size, w3.heap.size]) (by simp <;> omega))
  have W2_ := hide (U32s.boxed V2.out b3' (L' := [w.heap.size, w.heap.size + 1, w.heap.size + 1 + 1, w1.heap.size, w3.heap.size]) (by simp <;> omega))
  have X1_ := hide (U32s.boxed X1.out b3' (L' := [w.heap.size, w.heap.size + 1, w.heap.size + 1 + 1, w1.heap.size, w3.heap.size]) (by simp <;> omega))
  have X2_ := hide (U32s.boxed X2.out b3' (L' := [w.heap.size, w.heap.size + 1, w.heap.size + 1 + 1, w1.heap.size, w3.heap.size]) (by simp <;> omega))
  clear V1 V2 X1 X2 N0 N1 N2 N3 B3
  have M0 := hide k0
  have M1 := hide k1
  have M2 := hide k2
  have M3 := hide k3
  have M4 := hide k4
  have B3 := hide b3
  obtain ⟨c0, f0⟩ := k0.rules
  obtain ⟨c2, f2⟩ := k2.rules
  obtain ⟨c3, f3⟩ := k3.rules
  obtain ⟨c4, f4⟩ := k4.rules
  have l0 := k0.lt
  have l1 := k1.lt
  have l2 := k2.lt
  have l3 := k3.lt
  have l4 := k4.lt
  have z4 := b3.size
  clear k0 k1 k2 k3 k4 b3 b3'
  have s0 : Below W3.heap.size W3 W3.drew := (Below.refl _ _).drew
  refine wp_region_seq [(0, 2), (1, 1), (2, 2), (3, 2), (4, 2), (5, 2), (6, 2), (7, 1), (8, 1), (9, 0), (10, 2), (11, 2)] (fun j => !(j == 9)) (fun w' => Below W3.heap.size W3 w') (by kernel_rfl) (by kernel_rfl) ?_
  intro ops hops
  have HOPS := hide hops
  clear hops
  refine wpSeq_pure (o := ?ro61) (v := ?rv61) ?rh61 ?rg61 ?rq61 ?ry61 ?_
  case rh61 => rw [HOPS.out]; simp only [List.getElem?_toArray, List.getElem?_cons_succ, List.getElem?_cons_zero]; exact rfl
  case rg61 => rfl
  case rq61 => exact fun _ _ _ h => h
  case ry61 => intro w'; go_simp; try with_reducible rfl
  simp only [Act.put, List.setIfInBounds_toArray, List.set_cons_succ, List.set_cons_zero]
  refine wpSeq_read (o := ?ro62) (v := ?rv62) ?rh62 ?rg62 ?rq62 s0 ?ry62 ?_
  case rh62 => rw [HOPS.out]; simp only [List.getElem?_toArray, List.getElem?_cons_succ, List.getElem?_cons_zero]; exact rfl
  case rg62 => rfl
  case rq62 => exact fun _ _ _ h => h
  case ry62 => intro w' hs; obtain ⟨cc, ff⟩ := bcell hs; go_simp; try with_reducible rfl
  simp only [Act.put, List.setIfInBounds_toArray, List.set_cons_succ, List.set_cons_zero]
  refine wpSeq_pure (o := ?ro63) (v := ?rv63) ?rh63 ?rg63 ?rq63 ?ry63 ?_
  case rh63 => rw [HOPS.out]; simp only [List.getElem?_toArray, List.getElem?_cons_succ, List.getElem?_cons_zero]; exact rfl
  case rg63 => rfl
  case rq63 => exact fun _ _ _ h => h
  case ry63 => intro w'; go_simp; try with_reducible rfl
  simp only [Act.put, List.setIfInBounds_toArray, List.set_cons_succ, List.set_cons_zero]
  refine wpSeq_pure (o := ?ro64) (v := ?rv64) ?rh64 ?rg64 ?rq64 ?ry64 ?_
  case rh64 => rw [HOPS.out]; simp only [List.getElem?_toArray, List.getElem?_cons_succ, List.getElem?_cons_zero]; exact rfl
  case rg64 => rfl
  case rq64 => exact fun _ _ _ h => h
  case ry64 => intro w'; go_simp; try with_reducible rfl
  simp only [Act.put, List.setIfInBounds_toArray, List.set_cons_succ, List.set_cons_zero]
  refine wpSeq_pure (o := ?ro65) (v := ?rv65) ?rh65 ?rg65 ?rq65 ?ry65 ?_
  case rh65 => rw [HOPS.out]; simp only [List.getElem?_toArray, List.getElem?_cons_succ, List.getElem?_cons_zero]; exact rfl
  case rg65 => rw [HOPS.out]; rfl
  case rq65 => exact fun _ _ _ h => h
  case ry65 => intro w'; go_simp; try with_reducible rfl
  simp only [Act.put, List.setIfInBounds_toArray, List.set_cons_succ, List.set_cons_zero]
  refine wpSeq_pure (o := ?ro66) (v := ?rv66) ?rh66 ?rg66 ?rq66 ?ry66 ?_
  case rh66 => rw [HOPS.out]; simp only [List.getElem?_toArray, List.getElem?_cons_succ, List.getElem?_cons_zero]; exact rfl
  case rg66 => rw [HOPS.out]; rfl
  case rq66 => exact fun _ _ _ h => h
  case ry66 => intro w'; go_simp; try with_reducible rfl
  simp only [Act.put, List.setIfInBounds_toArray, List.set_cons_succ, List.set_cons_zero]
  refine wpSeq_pure (o := ?ro67) (v := ?rv67) ?rh67 ?rg67 ?rq67 ?ry67 ?_
  case rh67 => rw [HOPS.out]; simp only [List.getElem?_toArray, List.getElem?_cons_succ, List.getElem?_cons_zero]; exact rfl
  case rg67 => rw [HOPS.out]; rfl
  case rq67 => exact fun _ _ _ h => h
  case ry67 => intro w'; go_simp; try with_reducible rfl
  simp only [Act.put, List.setIfInBounds_toArray, List.set_cons_succ, List.set_cons_zero]
  refine wpSeq_read (o := ?ro68) (v := ?rv68) ?rh68 ?rg68 ?rq68 s0 ?ry68 ?_
  case rh68 => rw [HOPS.out]; simp only [List.getElem?_toArray, List.getElem?_cons_succ, List.getElem?_cons_zero]; exact rfl
  case rg68 => rw [HOPS.out]; rfl
  case rq68 => exact fun _ _ _ h => h
  case ry68 => intro w' hs; obtain ⟨cc, ff⟩ := bcell hs; go_simp; try with_reducible rfl
  simp only [Act.put, List.setIfInBounds_toArray, List.set_cons_succ, List.set_cons_zero]
  refine wpSeq_read (o := ?ro69) (v := ?rv69) ?rh69 ?rg69 ?rq69 s0 ?ry69 ?_
  case rh69 => rw [HOPS.out]; simp only [List.getElem?_toArray, List.getElem?_cons_succ, List.getElem?_cons_zero]; exact rfl
  case rg69 => rw [HOPS.out]; rfl
  case rq69 => exact fun _ _ _ h => h
  case ry69 => intro w' hs; obtain ⟨cc, ff⟩ := bcell hs; refine exec_load_row (ρ := Act.eval _) 33 (.tmp 3) ?_ (w.heap.size + 1) ?_ 33 oa _ (M1.out.after hs) Try.underlying33 rfl (by rw [HO.out.size]; kernel_rfl) <;> rfl; try with_reducible rfl
  simp only [Act.put, List.setIfInBounds_toArray, List.set_cons_succ, List.set_cons_zero]
  refine wpSeq_step (o := ?ro70) ?rh70 (fun K hK => ?_)
  case rh70 => rw [HOPS.out]; simp only [List.getElem?_toArray, List.getElem?_cons_succ, List.getElem?_cons_zero]; exact rfl
  rw [HOPS.out]
  go_simp
  refine (acts4_any (dom D w.heap.size [w.heap.size, w.heap.size + 1, w.heap.size + 1 + 1, w1.heap.size, w3.heap.size] W3.drew) w.heap.size _ oa _ M0.out.drew rfl (not_dom_box (by simp)) _ x.re rfl (Rp.drew_ _ X2_.out) hup (by omega) o.who x.vr x.vn o.vr o.vn rfl rfl HO.out.who HO.out.vr HO.out.vn).mono ?_
  rintro e w4 ⟨A9, a9, rfl, hk4, hr4, hg4⟩
  simp at hk4
  have HL3 : Hid (∀ g ∈ [w.heap.size, w.heap.size + 1, w.heap.size + 1 + 1, w1.heap.size, w3.heap.size], g < W3.drew.heap.size) := by intro g hg; simp at hg ⊢; omega
  have R4 := hide (U32s.called hr4 HL3.out z4)
  clear hr4
  have hg4 := undrewG hg4
  have P2 := hide (M2.out.grown hg4 (by omega))
  have P4 := hide (M4.out.grown hg4 (by omega))
  have V1 := hide (Rp.grown_ _ W1_.out hg4 (by simp))
  have V2 := hide (Rp.grown_ _ W2_.out hg4 (by simp))
  have U1 := hide (Rp.grown_ _ X1_.out hg4 (by simp))
  have U2 := hide (Rp.grown_ _ X2_.out hg4 (by simp))
  have B4 := hide (below_grown0 B3.out hg4 (Nat.le_refl _) z4)
  have z5 := hg4.size
  have P0 := hide hk4
  obtain ⟨d0, e0⟩ := P0.out.rules
  obtain ⟨d2, e2⟩ := P2.out.rules
  obtain ⟨d4, e4⟩ := P4.out.rules
  clear hk4 hg4 c0 f0 c2 f2 c3 f3 c4 f4 W1_ W2_ X1_ X2_
  refine hK _ _ (fun h => by cases h) ?_
  clear hK K
  refine wpSeq_pure (o := ?ro71) (v := ?rv71) ?rh71 ?rg71 ?rq71 ?ry71 ?_
  case rh71 => rw [HOPS.out]; simp only [List.getElem?_toArray, List.getElem?_cons_succ, List.getElem?_cons_zero]; exact rfl
  case rg71 => rw [HOPS.out]; rfl
  case rq71 => exact fun _ _ _ h => h
  case ry71 => intro w'; go_simp; try with_reducible rfl
  simp only [Act.put, List.setIfInBounds_toArray, List.set_cons_succ, List.set_cons_zero]
  refine wpSeq_pure (o := ?ro72) (v := ?rv72) ?rh72 ?rg72 ?rq72 ?ry72 ?_
  case rh72 => rw [HOPS.out]; simp only [List.getElem?_toArray, List.getElem?_cons_succ, List.getElem?_cons_zero]; exact rfl
  case rg72 => rfl
  case rq72 => exact fun _ _ _ h => h
  case ry72 => intro w'; go_simp; try with_reducible rfl
  simp only [Act.put, List.setIfInBounds_toArray, List.set_cons_succ, List.set_cons_zero]
  refine wpSeq_nil ?_
  go_wp2_with fail
  have HL5 : Hid (∀ g ∈ [w.heap.size, w.heap.size + 1, w.heap.size + 1 + 1, w1.heap.size, w3.heap.size], g < w4.heap.size) := by intro g hg; simp at hg; omega
  refine (copied_any (dom D w.heap.size [w.heap.size, w.heap.size + 1, w.heap.size + 1 + 1, w1.heap.size, w3.heap.size] w4) _ { x with re := ins x.re o.who } _ ⟨_, _, _, _, rfl, U1.out, R4.out⟩ (by show x.ap.length ≤ _; omega) (by show (ins x.re o.who).length ≤ _; have := ins_len_le x.re o.who; omega)).mono ?_
  rintro e w5 ⟨cs5, rfl, h5, hb5⟩
  obtain ⟨A5, a5, A5', a5', rfl, y1, y2⟩ := LineR.called h5 HL5.out B4.out.size
  have V3 := hide y1
  have V4 := hide y2
  have Q2 := hide (P2.out.after hb5)
  have B5 := hide (B4.out.trans (hb5.mono B4.out.size))
  obtain ⟨q2, r2⟩ := Q2.out.rules
  clear h5 hb5 y1 y2 d0 e0 d2 e2 d4 e4
  go_wp2_with fail
  refine bodyPost_ret (v := .tuple #[.agg #[.int .u8 x.r, .int .u32 x.n, .int .u32 x.item, .int .u32 x.qty, .int .u32 x.price, .int .u8 x.vr, .int .u32 x.vn, .slice A5 x.ap.length a5, .slice A5' (ins x.re o.who).length a5', .int .u8 x.st], .int .i64 0]) (by simp [results, Try.results9, go_sem, q2, r2]) rfl ⟨_, rfl, ⟨A5, a5, A5', a5', rfl, ?_, ?_⟩, ?_⟩
  · refine Rp.ends _ (L := [w.heap.size, w.heap.size + 1, w.heap.size + 1 + 1, w1.heap.size, w3.heap.size]) ?_
    repeat (first | with_reducible refine Rp.drew_ _ ?_ | with_reducible refine Rp.stored _ ?_ (by simp) _)
    exact V3.out
  · refine Rp.ends _ (L := [w.heap.size, w.heap.size + 1, w.heap.size + 1 + 1, w1.heap.size, w3.heap.size]) ?_
    repeat (first | with_reducible refine Rp.drew_ _ ?_ | with_reducible refine Rp.stored _ ?_ (by simp) _)
    exact V4.out
  · repeat (first | with_reducible refine Below.drew ?_ | with_reducible refine Below.setCell ?_ (by simp <;> omega) _)
    exact B5.out

set_option maxHeartbeats 1000000 in
theorem act_reject_stale (D : Nat → Prop) (cs : List Value) (oa : Array Value) (x : LineM) (o : OpM) (w : World) (hx : LineR.at_ w D cs x) (ho : OpAt oa o) (ha : x.ap.length ≤ 1000) (hb : x.re.length ≤ 1000) (hkd : o.kind = 7) (hst : x.st = 0) (hup : rising x.re = true) (hv : (x.vr == o.vr && x.vn == o.vn) = false) :
    Calls Try.prog 9 #[.agg cs.toArray, .agg oa] w fun e w' => ∃ cs', e = .returned (.tuple #[.agg cs'.toArray, .int .i64 278]) ∧ LineR.at_ w' (dom D w.heap.size [] w') cs' x ∧ Below w.heap.size w w' := by
  have hk : 0 ≤ kidx o.kind := by rw [hkd]; decide
  have hki : kidx o.kind = 3 := by rw [hkd]; decide
  have HKI := hide hki
  have hsb : (x.st != 0) = false := by simp [hst]
  clear hst hki hkd
  obtain ⟨A, c, A', c', rfl, hx1, hx2⟩ := hx
  have HO := hide ho
  have hcs := hide ho.kind
  clear ho
  go_enter Try.func9, Try.ntmps9
  go_wp2_with fail
  refine at_call3 w.heap.size 27 (w.heap.size + 1) 33 (w.heap.size + 1 + 1) 27 (fun W => Below w.heap.size w W) (((Blk.new _ _ _).alloc _).alloc _) ((Blk.new_ (by simp)).alloc _) (Blk.new_ (by simp)) ((((Below.refl _ _).alloc (Nat.le_refl _) _).alloc (by simp) _).alloc (by simp <;> omega) _) ?_
  rintro W k0 k1 k2 b0
  have hx1 := U32s.boxed (U32s.start hx1) b0 (L' := [w.heap.size, w.heap.size + 1, w.heap.size + 1 + 1]) (by simp <;> omega)
  have hx2 := U32s.boxed (U32s.start hx2) b0 (L' := [w.heap.size, w.heap.size + 1, w.heap.size + 1 + 1]) (by simp <;> omega)
  refine (acts_any W).mono ?_
  rintro e w1 ⟨rfl, hb1⟩
  have K0 := hide (k0.after hb1)
  have K1 := hide (k1.after hb1)
  have K2 := hide (k2.after hb1)
  have X1 := hide (U32s.after hx1 hb1)
  have X2 := hide (U32s.after hx2 hb1)
  have B1 := hide (b0.trans (hb1.mono b0.size))
  clear k0 k1 k2 b0 hb1 hx1 hx2
  go_wp2_with fail
  refine at_call4 w.heap.size 27 (w.heap.size + 1) 33 (w.heap.size + 1 + 1) 27 w1.heap.size 55 (fun W => Below w.heap.size w W ∧ Below w1.heap.size w1 W) (K0.out.alloc _) (K1.out.alloc _) (K2.out.alloc _) (Blk.new _ _ _) ⟨B1.out.alloc B1.out.size _, (Below.refl _ _).alloc (Nat.le_refl _) _⟩ ?_
  rintro W1 k0 k1 k2 k3 ⟨b1, b1'⟩
  refine (kindex_any W1 _ _ _ oa o.kind k1 hcs.out k3).mono ?_
  rintro e w2 ⟨rfl, hb2⟩
  have Y1 := hide (U32s.boxed X1.out (b1'.trans (hb2.mono b1'.size)) (L' := [w.heap.size, w.heap.size + 1, w.heap.size + 1 + 1, w1.heap.size]) (by simp <;> omega))
  have Y2 := hide (U32s.boxed X2.out (b1'.trans (hb2.mono b1'.size)) (L' := [w.heap.size, w.heap.size + 1, w.heap.size + 1 + 1, w1.heap.size]) (by simp <;> omega))
  have M0 := hide (k0.after hb2)
  have M1 := hide (k1.after hb2)
  have M2 := hide (k2.after hb2)
  have M3 := hide (k3.after hb2)
  have B2 := hide (b1.trans (hb2.mono b1.size))
  clear k0 k1 k2 k3 b1 b1' hb2 K0 K1 K2 X1 X2 B1
  obtain ⟨c0, f0⟩ := M0.out.rules
  obtain ⟨c2, f2⟩ := M2.out.rules
  have l2 := M2.out.lt
  have l3 := M3.out.lt
  have hki := HKI.out
  go_wp2_with fail
  have HL4 : Hid (∀ g ∈ [w.heap.size, w.heap.size + 1, w.heap.size + 1 + 1, w1.heap.size], g < w2.heap.size) := by intro g hg; simp at hg; omega
  refine (copied_any _ _ x _ ⟨A, c, A', c', rfl, Y1.out, Y2.out⟩ (by omega) (by omega)).mono ?_
  rintro e w3 ⟨cs3, rfl, h3, hb3⟩
  obtain ⟨A3, a3, A3', a3', rfl, y1, y2⟩ := LineR.called h3 HL4.out B2.out.size
  have V1 := hide y1
  have V2 := hide y2
  have X1 := hide (U32s.after Y1.out hb3)
  have X2 := hide (U32s.after Y2.out hb3)
  have N0 := hide (M0.out.after hb3)
  have N1 := hide (M1.out.after hb3)
  have N2 := hide (M2.out.after hb3)
  have N3 := hide (M3.out.after hb3)
  have B3 := hide (B2.out.trans (hb3.mono B2.out.size))
  have z3 := hb3.size
  clear h3 hb3 y1 y2 M0 M1 M2 M3 Y1 Y2 B2 c0 f0 c2 f2
  go_wp2_with fail
  refine at_code5 w.heap.size 27 (w.heap.size + 1) 33 (w.heap.size + 1 + 1) 27 w1.heap.size 55 w3.heap.size 27 (fun W => Below w.heap.size w W ∧ Below w3.heap.size w3 W) (N0.out.alloc _) (N1.out.alloc _) (N2.out.alloc _) (N3.out.alloc _) (Blk.new _ _ _) ⟨B3.out.alloc B3.out.size _, (Below.refl _ _).alloc (Nat.le_refl _) _⟩ ?_
  rintro W3 k0 k1 k2 k3 k4 ⟨b3, b3'⟩
  have W1_ := hide (U32s.boxed V1.out b3' (L' := [w.heap.size, w.heap.size + 1, w.heap.size + 1 + 1, w1.heap.size, w3.heap.size]) (by simp <;> omega))
  have W2_ := hide (U32s.boxed V2.out b3' (L' := [w.heap.size, w.heap.size + 1, w.heap.size + 1 + 1, w1.heap.size, w3.heap.size]) (by simp <;> omega))
  have X1_ := hide (U32s.boxed X1.out b3' (L' := [w.heap.size, w.heap.size + 1, w.heap.size + 1 + 1, w1.heap.size, w3.heap.size]) (by simp <;> omega))
  have X2_ := hide (U32s.boxed X2.out b3' (L' := [w.heap.size, w.heap.size + 1, w.heap.size + 1 + 1, w1.heap.size, w3.heap.size]) (by simp <;> omega))
  clear V1 V2 X1 X2 N0 N1 N2 N3 B3
  have M0 := hide k0
  have M1 := hide k1
  have M2 := hide k2
  have M3 := hide k3
  have M4 := hide k4
  have B3 := hide b3
  obtain ⟨c0, f0⟩ := k0.rules
  obtain ⟨c2, f2⟩ := k2.rules
  obtain ⟨c3, f3⟩ := k3.rules
  obtain ⟨c4, f4⟩ := k4.rules
  have l0 := k0.lt
  have l1 := k1.lt
  have l2 := k2.lt
  have l3 := k3.lt
  have l4 := k4.lt
  have z4 := b3.size
  clear k0 k1 k2 k3 k4 b3 b3'
  have s0 : Below W3.heap.size W3 W3.drew := (Below.refl _ _).drew
  refine wp_region_seq [(0, 2), (1, 1), (2, 2), (3, 2), (4, 2), (5, 2), (6, 2), (7, 1), (8, 1), (9, 0), (10, 2), (11, 2)] (fun j => !(j == 9)) (fun w' => Below W3.heap.size W3 w') (by kernel_rfl) (by kernel_rfl) ?_
  intro ops hops
  have HOPS := hide hops
  clear hops
  refine wpSeq_pure (o := ?ro73) (v := ?rv73) ?rh73 ?rg73 ?rq73 ?ry73 ?_
  case rh73 => rw [HOPS.out]; simp only [List.getElem?_toArray, List.getElem?_cons_succ, List.getElem?_cons_zero]; exact rfl
  case rg73 => rfl
  case rq73 => exact fun _ _ _ h => h
  case ry73 => intro w'; go_simp; try with_reducible rfl
  simp only [Act.put, List.setIfInBounds_toArray, List.set_cons_succ, List.set_cons_zero]
  refine wpSeq_read (o := ?ro74) (v := ?rv74) ?rh74 ?rg74 ?rq74 s0 ?ry74 ?_
  case rh74 => rw [HOPS.out]; simp only [List.getElem?_toArray, List.getElem?_cons_succ, List.getElem?_cons_zero]; exact rfl
  case rg74 => rfl
  case rq74 => exact fun _ _ _ h => h
  case ry74 => intro w' hs; obtain ⟨cc, ff⟩ := bcell hs; go_simp; try with_reducible rfl
  simp only [Act.put, List.setIfInBounds_toArray, List.set_cons_succ, List.set_cons_zero]
  refine wpSeq_pure (o := ?ro75) (v := ?rv75) ?rh75 ?rg75 ?rq75 ?ry75 ?_
  case rh75 => rw [HOPS.out]; simp only [List.getElem?_toArray, List.getElem?_cons_succ, List.getElem?_cons_zero]; exact rfl
  case rg75 => rfl
  case rq75 => exact fun _ _ _ h => h
  case ry75 => intro w'; go_simp; try with_reducible rfl
  simp only [Act.put, List.setIfInBounds_toArray, List.set_cons_succ, List.set_cons_zero]
  refine wpSeq_pure (o := ?ro76) (v := ?rv76) ?rh76 ?rg76 ?rq76 ?ry76 ?_
  case rh76 => rw [HOPS.out]; simp only [List.getElem?_toArray, List.getElem?_cons_succ, List.getElem?_cons_zero]; exact rfl
  case rg76 => rfl
  case rq76 => exact fun _ _ _ h => h
  case ry76 => intro w'; go_simp; try with_reducible rfl
  simp only [Act.put, List.setIfInBounds_toArray, List.set_cons_succ, List.set_cons_zero]
  refine wpSeq_pure (o := ?ro77) (v := ?rv77) ?rh77 ?rg77 ?rq77 ?ry77 ?_
  case rh77 => rw [HOPS.out]; simp only [List.getElem?_toArray, List.getElem?_cons_succ, List.getElem?_cons_zero]; exact rfl
  case rg77 => rw [HOPS.out]; rfl
  case rq77 => exact fun _ _ _ h => h
  case ry77 => intro w'; go_simp; try with_reducible rfl
  simp only [Act.put, List.setIfInBounds_toArray, List.set_cons_succ, List.set_cons_zero]
  refine wpSeq_pure (o := ?ro78) (v := ?rv78) ?rh78 ?rg78 ?rq78 ?ry78 ?_
  case rh78 => rw [HOPS.out]; simp only [List.getElem?_toArray, List.getElem?_cons_succ, List.getElem?_cons_zero]; exact rfl
  case rg78 => rw [HOPS.out]; rfl
  case rq78 => exact fun _ _ _ h => h
  case ry78 => intro w'; go_simp; try with_reducible rfl
  simp only [Act.put, List.setIfInBounds_toArray, List.set_cons_succ, List.set_cons_zero]
  refine wpSeq_pure (o := ?ro79) (v := ?rv79) ?rh79 ?rg79 ?rq79 ?ry79 ?_
  case rh79 => rw [HOPS.out]; simp only [List.getElem?_toArray, List.getElem?_cons_succ, List.getElem?_cons_zero]; exact rfl
  case rg79 => rw [HOPS.out]; rfl
  case rq79 => exact fun _ _ _ h => h
  case ry79 => intro w'; go_simp; try with_reducible rfl
  simp only [Act.put, List.setIfInBounds_toArray, List.set_cons_succ, List.set_cons_zero]
  refine wpSeq_read (o := ?ro80) (v := ?rv80) ?rh80 ?rg80 ?rq80 s0 ?ry80 ?_
  case rh80 => rw [HOPS.out]; simp only [List.getElem?_toArray, List.getElem?_cons_succ, List.getElem?_cons_zero]; exact rfl
  case rg80 => rw [HOPS.out]; rfl
  case rq80 => exact fun _ _ _ h => h
  case ry80 => intro w' hs; obtain ⟨cc, ff⟩ := bcell hs; go_simp; try with_reducible rfl
  simp only [Act.put, List.setIfInBounds_toArray, List.set_cons_succ, List.set_cons_zero]
  refine wpSeq_read (o := ?ro81) (v := ?rv81) ?rh81 ?rg81 ?rq81 s0 ?ry81 ?_
  case rh81 => rw [HOPS.out]; simp only [List.getElem?_toArray, List.getElem?_cons_succ, List.getElem?_cons_zero]; exact rfl
  case rg81 => rw [HOPS.out]; rfl
  case rq81 => exact fun _ _ _ h => h
  case ry81 => intro w' hs; obtain ⟨cc, ff⟩ := bcell hs; refine exec_load_row (ρ := Act.eval _) 33 (.tmp 3) ?_ (w.heap.size + 1) ?_ 33 oa _ (M1.out.after hs) Try.underlying33 rfl (by rw [HO.out.size]; kernel_rfl) <;> rfl; try with_reducible rfl
  simp only [Act.put, List.setIfInBounds_toArray, List.set_cons_succ, List.set_cons_zero]
  refine wpSeq_step (o := ?ro82) ?rh82 (fun K hK => ?_)
  case rh82 => rw [HOPS.out]; simp only [List.getElem?_toArray, List.getElem?_cons_succ, List.getElem?_cons_zero]; exact rfl
  rw [HOPS.out]
  go_simp
  refine (acts4_any (dom D w.heap.size [w.heap.size, w.heap.size + 1, w.heap.size + 1 + 1, w1.heap.size, w3.heap.size] W3.drew) w.heap.size _ oa _ M0.out.drew rfl (not_dom_box (by simp)) _ x.re rfl (Rp.drew_ _ X2_.out) hup (by omega) o.who x.vr x.vn o.vr o.vn rfl rfl HO.out.who HO.out.vr HO.out.vn).mono ?_
  rintro e w4 ⟨A9, a9, rfl, hk4, hr4, hg4⟩
  simp at hk4
  have HL3 : Hid (∀ g ∈ [w.heap.size, w.heap.size + 1, w.heap.size + 1 + 1, w1.heap.size, w3.heap.size], g < W3.drew.heap.size) := by intro g hg; simp at hg ⊢; omega
  have R4 := hide (U32s.called hr4 HL3.out z4)
  clear hr4
  have hg4 := undrewG hg4
  have P2 := hide (M2.out.grown hg4 (by omega))
  have P4 := hide (M4.out.grown hg4 (by omega))
  have V1 := hide (Rp.grown_ _ W1_.out hg4 (by simp))
  have V2 := hide (Rp.grown_ _ W2_.out hg4 (by simp))
  have U1 := hide (Rp.grown_ _ X1_.out hg4 (by simp))
  have U2 := hide (Rp.grown_ _ X2_.out hg4 (by simp))
  have B4 := hide (below_grown0 B3.out hg4 (Nat.le_refl _) z4)
  have z5 := hg4.size
  have P0 := hide hk4
  obtain ⟨d0, e0⟩ := P0.out.rules
  obtain ⟨d2, e2⟩ := P2.out.rules
  obtain ⟨d4, e4⟩ := P4.out.rules
  clear hk4 hg4 c0 f0 c2 f2 c3 f3 c4 f4 W1_ W2_ X1_ X2_
  refine hK _ _ (fun h => by cases h) ?_
  clear hK K
  refine wpSeq_pure (o := ?ro83) (v := ?rv83) ?rh83 ?rg83 ?rq83 ?ry83 ?_
  case rh83 => rw [HOPS.out]; simp only [List.getElem?_toArray, List.getElem?_cons_succ, List.getElem?_cons_zero]; exact rfl
  case rg83 => rw [HOPS.out]; rfl
  case rq83 => exact fun _ _ _ h => h
  case ry83 => intro w'; go_simp; try with_reducible rfl
  simp only [Act.put, List.setIfInBounds_toArray, List.set_cons_succ, List.set_cons_zero]
  refine wpSeq_pure (o := ?ro84) (v := ?rv84) ?rh84 ?rg84 ?rq84 ?ry84 ?_
  case rh84 => rw [HOPS.out]; simp only [List.getElem?_toArray, List.getElem?_cons_succ, List.getElem?_cons_zero]; exact rfl
  case rg84 => rfl
  case rq84 => exact fun _ _ _ h => h
  case ry84 => intro w'; go_simp; try with_reducible rfl
  simp only [Act.put, List.setIfInBounds_toArray, List.set_cons_succ, List.set_cons_zero]
  refine wpSeq_nil ?_
  go_wp2_with fail
  refine bodyPost_ret (v := .tuple #[.agg #[.int .u8 x.r, .int .u32 x.n, .int .u32 x.item, .int .u32 x.qty, .int .u32 x.price, .int .u8 x.vr, .int .u32 x.vn, .slice A3 x.ap.length a3, .slice A3' x.re.length a3', .int .u8 x.st], .int .i64 278]) (by simp [results, Try.results9, go_sem, d2, e2]) rfl ⟨_, rfl, ⟨A3, a3, A3', a3', rfl, ?_, ?_⟩, ?_⟩
  · refine Rp.ends _ (L := [w.heap.size, w.heap.size + 1, w.heap.size + 1 + 1, w1.heap.size, w3.heap.size]) ?_
    repeat (first | with_reducible refine Rp.drew_ _ ?_ | with_reducible refine Rp.stored _ ?_ (by simp) _)
    exact V1.out
  · refine Rp.ends _ (L := [w.heap.size, w.heap.size + 1, w.heap.size + 1 + 1, w1.heap.size, w3.heap.size]) ?_
    repeat (first | with_reducible refine Rp.drew_ _ ?_ | with_reducible refine Rp.stored _ ?_ (by simp) _)
    exact V2.out
  · repeat (first | with_reducible refine Below.drew ?_ | with_reducible refine Below.setCell ?_ (by simp <;> omega) _)
    exact B4.out


end Go.Proofs.Ytfdgflhbooaomaa
