/- walks: line.Act -/
import Derived.Test.YtfdgflhbooaomaaLine7
namespace Go.Proofs.Ytfdgflhbooaomaa
open Go.RowKit

/-- a line's cells, one by one -/
theorem LineR.parts {w : World} {D : Nat → Prop} {ca : Array Value} {x : LineM} (h : LineR.at_ w D ca.toList x) :
    ∃ A c A' c', ca.size = 10 ∧ ca[0]? = some (.int .u8 x.r) ∧ ca[1]? = some (.int .u32 x.n) ∧ ca[2]? = some (.int .u32 x.item) ∧ ca[3]? = some (.int .u32 x.qty) ∧ ca[4]? = some (.int .u32 x.price) ∧ ca[5]? = some (.int .u8 x.vr) ∧ ca[6]? = some (.int .u32 x.vn) ∧ ca[7]? = some (.slice A x.ap.length c) ∧ ca[8]? = some (.slice A' x.re.length c') ∧ ca[9]? = some (.int .u8 x.st) ∧ U32s.at_ w D [.slice A x.ap.length c] x.ap ∧ U32s.at_ w D [.slice A' x.re.length c'] x.re := by
  obtain ⟨A, c, A', c', e, h1, h2⟩ := h
  obtain ⟨l⟩ := ca
  simp only at e
  subst e
  exact ⟨A, c, A', c', rfl, rfl, rfl, rfl, rfl, rfl, rfl, rfl, rfl, rfl, rfl, h1, h2⟩
theorem arr10 {ca : Array Value} {v0 v1 v2 v3 v4 v5 v6 v7 v8 v9 : Value} (hs : ca.size = 10) (h0 : ca[0]? = some v0) (h1 : ca[1]? = some v1) (h2 : ca[2]? = some v2) (h3 : ca[3]? = some v3) (h4 : ca[4]? = some v4) (h5 : ca[5]? = some v5) (h6 : ca[6]? = some v6) (h7 : ca[7]? = some v7) (h8 : ca[8]? = some v8) (h9 : ca[9]? = some v9) :
    ca.toList = [v0, v1, v2, v3, v4, v5, v6, v7, v8, v9] := by
  obtain ⟨l⟩ := ca
  match l, hs with
  | [a0, a1, a2, a3, a4, a5, a6, a7, a8, a9], _ =>
    simp at h0 h1 h2 h3 h4 h5 h6 h7 h8 h9
    simp [h0, h1, h2, h3, h4, h5, h6, h7, h8, h9]
theorem LineR.mk {w : World} {D : Nat → Prop} {ca : Array Value} {x : LineM} {A A' : Option Addr} {c c' : Nat} (hs : ca.size = 10) (h0 : ca[0]? = some (.int .u8 x.r)) (h1 : ca[1]? = some (.int .u32 x.n)) (h2 : ca[2]? = some (.int .u32 x.item)) (h3 : ca[3]? = some (.int .u32 x.qty)) (h4 : ca[4]? = some (.int .u32 x.price)) (h5 : ca[5]? = some (.int .u8 x.vr)) (h6 : ca[6]? = some (.int .u32 x.vn)) (h7 : ca[7]? = some (.slice A x.ap.length c)) (h8 : ca[8]? = some (.slice A' x.re.length c')) (h9 : ca[9]? = some (.int .u8 x.st)) (ha : U32s.at_ w D [.slice A x.ap.length c] x.ap) (hb : U32s.at_ w D [.slice A' x.re.length c'] x.re) : LineR.at_ w D ca.toList x :=
  ⟨A, c, A', c', arr10 hs h0 h1 h2 h3 h4 h5 h6 h7 h8 h9, ha, hb⟩

theorem copied_arr (D : Nat → Prop) (ca : Array Value) (x : LineM) (w : World) (h : LineR.at_ w D ca.toList x) (ha : x.ap.length ≤ 1000000) (hb : x.re.length ≤ 1000000) :
    Calls Try.prog 25 #[.agg ca] w fun e w' => ∃ ca' : Array Value, e = .returned (.agg ca') ∧ LineR.at_ w' (dom D w.heap.size [] w') ca'.toList x ∧ Below w.heap.size w w' := by
  have := copied_any D ca.toList x w h ha hb
  simp only [Array.toArray_toList] at this
  refine this.mono ?_
  rintro e w' ⟨cs', rfl, h1, h2⟩
  exact ⟨cs'.toArray, rfl, by simpa using h1, h2⟩

/-- what an operation does to a line -/
def zeroLine : LineM := ⟨0, 0, 0, 0, 0, 0, 0, [], [], 0⟩
def actM (x : LineM) (o : OpM) : LineM × Int :=
  if kidx o.kind < 0 then (zeroLine, 2)
  else if x.st ≠ 0 then (x, 278)
  else if o.kind = 4 then ({ x with qty := o.qty, vr := o.r, vn := o.n, ap := [], re := [] }, 0)
  else if o.kind = 5 then ({ x with st := 1 }, 0)
  else if (x.vr == o.vr && x.vn == o.vn) = false then (x, 278)
  else if o.kind = 6 then ({ x with ap := ins x.ap o.who }, 0)
  else ({ x with re := ins x.re o.who }, 0)

/-- the operation's cells that the walks look at -/
structure OpAt (oa : Array Value) (o : OpM) : Prop where
  size : oa.size = 29
  r : oa[0]? = some (.int .u8 o.r)
  n : oa[1]? = some (.int .u32 o.n)
  who : oa[11]? = some (.int .u32 o.who)
  kind : oa[14]? = some (.int .u8 o.kind)
  vr : oa[23]? = some (.int .u8 o.vr)
  vn : oa[24]? = some (.int .u32 o.vn)
  item : oa[25]? = some (.int .u32 o.item)
  qty : oa[26]? = some (.int .u32 o.qty)
  price : oa[27]? = some (.int .u32 o.price)
  one : ∀ u ∈ oa.toList, u.oneCell' = true

theorem OpR.parts {w : World} {D : Nat → Prop} {oa : Array Value} {o : OpM} (h : OpR.at_ w D oa.toList o) : OpAt oa o := by
  have h1 := OpR.one h
  obtain ⟨A, c, e, _⟩ := h
  obtain ⟨l⟩ := oa
  simp only at e h1
  subst e
  exact ⟨rfl, rfl, rfl, rfl, rfl, rfl, rfl, rfl, rfl, rfl, fun u hu => h1 u hu⟩

theorem exec_load_row {P : Program} {ρ : Operand → Value} {o : Oper} {w : World} (ty : TypeId) (x : Operand) (ho : o.op = .load ty x) (g : Nat) (hx : ρ x = .pointer (some ⟨g, 0, none⟩)) (t : TypeId) (cs : Array Value) (d : TypeDesc) (hg : Blk w g t cs)
    (hu : P.underlying ty = some d) (hd : (match d with | .struct _ | .array _ _ => true | _ => false) = true) (hi : (P.info? ty).map (·.size) = some cs.size) : (execOp ρ o).run P w = .ok (.value (.agg cs)) w := by
  unfold execOp
  simp only [ho, hx, Instr.loadAt, Instr.sureAddr, Sem.run_bind, Sem.run_pure, Result.andThen_ok, run_loadVar_row w g t ty cs (0, 0) d hg hu hd hi]

theorem Blk.grown {w w' : World} {g g0 : Nat} {t : TypeId} {cs : Array Value} (h : Blk w g t cs) (hb : w.grownBy w' (some g0)) (hne : g ≠ g0) : Blk w' g t cs := (hb.block g h.lt (fun e => hne (by injection e))).trans h
theorem Rp.grown_ {α : Type} (R : Rp α) {w w' : World} {D : Nat → Prop} {B : Nat} {L : List Nat} {cs : List Value} {x : α} {g0 : Nat} (h : R.at_ w (dom D B L w) cs x) (hg : w.grownBy w' (some g0)) (hm : g0 ∈ L) : R.at_ w' (dom D B L w') cs x :=
  R.keep (grown_holds hg (not_dom_box hm)) (fun b h _ => ⟨Nat.lt_of_lt_of_le h.1 hg.size, h.2⟩) h
theorem Rp.drew_ {α : Type} (R : Rp α) {w : World} {D : Nat → Prop} {B : Nat} {L : List Nat} {cs : List Value} {x : α} (h : R.at_ w (dom D B L w) cs x) : R.at_ w.drew (dom D B L w.drew) cs x := R.keep Holds.drew (fun b h _ => h) h
theorem below_grown0 {B : Nat} {a w w' : World} {g : Nat} (hb : Below B a w) (hg : w.grownBy w' (some g)) (h1 : B ≤ g) (h2 : B ≤ w.heap.size) : Below B a w' := hb.grown hg h2 (fun k hk => by injection hk with hk; omega)
theorem undrewG {w w' : World} {row : Option Nat} (h : w.drew.grownBy w' row) : w.grownBy w' row := ⟨h.os, h.tape, h.output, h.size, h.block⟩

set_option maxHeartbeats 1000000 in
theorem act_bad (D : Nat → Prop) (cs : List Value) (oa : Array Value) (x : LineM) (o : OpM) (w : World) (hx : LineR.at_ w D cs x) (ho : OpAt oa o) (ha : x.ap.length ≤ 1000) (hb : x.re.length ≤ 1000) (hk : kidx o.kind < 0) :
    Calls Try.prog 9 #[.agg cs.toArray, .agg oa] w fun e w' => ∃ cs', e = .returned (.tuple #[.agg cs'.toArray, .int .i64 2]) ∧ LineR.at_ w' (dom D w.heap.size [] w') cs' zeroLine ∧ Below w.heap.size w w' := by
  obtain ⟨A, c, A', c', rfl, hx1, hx2⟩ := hx
  have HO := hide ho
  have hcs := hide ho.kind
  clear ho
  go_enter Try.func9, Try.ntmps9
  go_wp2_with fail
  refine at_call3 w.heap.size 27 (w.heap.size + 1) 33 (w.heap.size + 1 + 1) 27 (fun W => Below w.heap.size w W) (((Blk.new _ _ _).alloc _).alloc _) ((Blk.new_ (by simp)).alloc _) (Blk.new_ (by simp)) ((((Below.refl _ _).alloc (Nat.le_refl _) _).alloc (by simp) _).alloc (by simp <;> omega) _) ?_
  rintro W k0 k1 k2 b0
  have hx1 := U32s.boxed (U32s.start hx1) b0 (L' := [w.heap.size, w.heap.size + 1, w.heap.size + 1 + 1]) (by simp <;> omega)
  have hx2 := U32s.boxed (U32s.start hx2) b0 (L' := [w.heap.size, w.heap.size + 1, w.heap.size + 1 + 1]) (by simp <;> omega)
  refine (acts_any W).mono ?_
  rintro e w1 ⟨rfl, hb1⟩
  have K0 := hide (k0.after hb1)
  have K1 := hide (k1.after hb1)
  have K2 := hide (k2.after hb1)
  have X1 := hide (U32s.after hx1 hb1)
  have X2 := hide (U32s.after hx2 hb1)
  have B1 := hide (b0.trans (hb1.mono b0.size))
  clear k0 k1 k2 b0 hb1 hx1 hx2
  go_wp2_with fail
  refine at_call4 w.heap.size 27 (w.heap.size + 1) 33 (w.heap.size + 1 + 1) 27 w1.heap.size 55 (fun W => Below w.heap.size w W ∧ Below w1.heap.size w1 W) (K0.out.alloc _) (K1.out.alloc _) (K2.out.alloc _) (Blk.new _ _ _) ⟨B1.out.alloc B1.out.size _, (Below.refl _ _).alloc (Nat.le_refl _) _⟩ ?_
  rintro W1 k0 k1 k2 k3 ⟨b1, b1'⟩
  refine (kindex_any W1 _ _ _ oa o.kind k1 hcs.out k3).mono ?_
  rintro e w2 ⟨rfl, hb2⟩
  have Y1 := hide (U32s.boxed X1.out (b1'.trans (hb2.mono b1'.size)) (L' := [w.heap.size, w.heap.size + 1, w.heap.size + 1 + 1, w1.heap.size]) (by simp <;> omega))
  have Y2 := hide (U32s.boxed X2.out (b1'.trans (hb2.mono b1'.size)) (L' := [w.heap.size, w.heap.size + 1, w.heap.size + 1 + 1, w1.heap.size]) (by simp <;> omega))
  have M0 := hide (k0.after hb2)
  have M1 := hide (k1.after hb2)
  have M2 := hide (k2.after hb2)
  have M3 := hide (k3.after hb2)
  have B2 := hide (b1.trans (hb2.mono b1.size))
  clear k0 k1 k2 k3 b1 b1' hb2 K0 K1 K2 X1 X2 B1
  obtain ⟨c0, f0⟩ := M0.out.rules
  obtain ⟨c2, f2⟩ := M2.out.rules
  have l2 := M2.out.lt
  have l3 := M3.out.lt
  go_wp2_with fail
  refine bodyPost_ret (v := .tuple #[.agg #[.int .u8 0, .int .u32 0, .int .u32 0, .int .u32 0, .int .u32 0, .int .u8 0, .int .u32 0, .slice none 0 0, .slice none 0 0, .int .u8 0], .int .i64 2]) (by simp [results, Try.results9, go_sem, c2, f2]) rfl ⟨_, rfl, ⟨none, 0, none, 0, rfl, Rp.slice_nil, Rp.slice_nil⟩, ?_⟩
  repeat (refine Below.setCell ?_ (by simp <;> omega) _)
  exact B2.out

set_option maxHeartbeats 1000000 in
theorem act_gone (D : Nat → Prop) (cs : List Value) (oa : Array Value) (x : LineM) (o : OpM) (w : World) (hx : LineR.at_ w D cs x) (ho : OpAt oa o) (ha : x.ap.length ≤ 1000) (hb : x.re.length ≤ 1000) (hk : 0 ≤ kidx o.kind) (hst : x.st ≠ 0) :
    Calls Try.prog 9 #[.agg cs.toArray, .agg oa] w fun e w' => ∃ cs', e = .returned (.tuple #[.agg cs'.toArray, .int .i64 278]) ∧ LineR.at_ w' (dom D w.heap.size [] w') cs' x ∧ Below w.heap.size w w' := by
  have hsb : (x.st != 0) = true := by simp [hst]
  clear hst
  obtain ⟨A, c, A', c', rfl, hx1, hx2⟩ := hx
  have HO := hide ho
  have hcs := hide ho.kind
  clear ho
  go_enter Try.func9, Try.ntmps9
  go_wp2_with fail
  refine at_call3 w.heap.size 27 (w.heap.size + 1) 33 (w.heap.size + 1 + 1) 27 (fun W => Below w.heap.size w W) (((Blk.new _ _ _).alloc _).alloc _) ((Blk.new_ (by simp)).alloc _) (Blk.new_ (by simp)) ((((Below.refl _ _).alloc (Nat.le_refl _) _).alloc (by simp) _).alloc (by simp <;> omega) _) ?_
  rintro W k0 k1 k2 b0
  have hx1 := U32s.boxed (U32s.start hx1) b0 (L' := [w.heap.size, w.heap.size + 1, w.heap.size + 1 + 1]) (by simp <;> omega)
  have hx2 := U32s.boxed (U32s.start hx2) b0 (L' := [w.heap.size, w.heap.size + 1, w.heap.size + 1 + 1]) (by simp <;> omega)
  refine (acts_any W).mono ?_
  rintro e w1 ⟨rfl, hb1⟩
  have K0 := hide (k0.after hb1)
  have K1 := hide (k1.after hb1)
  have K2 := hide (k2.after hb1)
  have X1 := hide (U32s.after hx1 hb1)
  have X2 := hide (U32s.after hx2 hb1)
  have B1 := hide (b0.trans (hb1.mono b0.size))
  clear k0 k1 k2 b0 hb1 hx1 hx2
  go_wp2_with fail
  refine at_call4 w.heap.size 27 (w.heap.size + 1) 33 (w.heap.size + 1 + 1) 27 w1.heap.size 55 (fun W => Below w.heap.size w W ∧ Below w1.heap.size w1 W) (K0.out.alloc _) (K1.out.alloc _) (K2.out.alloc _) (Blk.new _ _ _) ⟨B1.out.alloc B1.out.size _, (Below.refl _ _).alloc (Nat.le_refl _) _⟩ ?_
  rintro W1 k0 k1 k2 k3 ⟨b1, b1'⟩
  refine (kindex_any W1 _ _ _ oa o.kind k1 hcs.out k3).mono ?_
  rintro e w2 ⟨rfl, hb2⟩
  have Y1 := hide (U32s.boxed X1.out (b1'.trans (hb2.mono b1'.size)) (L' := [w.heap.size, w.heap.size + 1, w.heap.size + 1 + 1, w1.heap.size]) (by simp <;> omega))
  have Y2 := hide (U32s.boxed X2.out (b1'.trans (hb2.mono b1'.size)) (L' := [w.heap.size, w.heap.size + 1, w.heap.size + 1 + 1, w1.heap.size]) (by simp <;> omega))
  have M0 := hide (k0.after hb2)
  have M1 := hide (k1.after hb2)
  have M2 := hide (k2.after hb2)
  have M3 := hide (k3.after hb2)
  have B2 := hide (b1.trans (hb2.mono b1.size))
  clear k0 k1 k2 k3 b1 b1' hb2 K0 K1 K2 X1 X2 B1
  obtain ⟨c0, f0⟩ := M0.out.rules
  obtain ⟨c2, f2⟩ := M2.out.rules
  have l2 := M2.out.lt
  have l3 := M3.out.lt
  go_wp2_with fail
  have HL4 : Hid (∀ g ∈ [w.heap.size, w.heap.size + 1, w.heap.size + 1 + 1, w1.heap.size], g < w2.heap.size) := by intro g hg; simp at hg; omega
  refine (copied_any _ _ x _ ⟨A, c, A', c', rfl, Y1.out, Y2.out⟩ (by omega) (by omega)).mono ?_
  rintro e w3 ⟨cs3, rfl, h3, hb3⟩
  obtain ⟨A3, a3, A3', a3', rfl, y1, y2⟩ := LineR.called h3 HL4.out B2.out.size
  have V1 := hide y1
  have V2 := hide y2
  have X1 := hide (U32s.after Y1.out hb3)
  have X2 := hide (U32s.after Y2.out hb3)
  have N0 := hide (M0.out.after hb3)
  have N1 := hide (M1.out.after hb3)
  have N2 := hide (M2.out.after hb3)
  have N3 := hide (M3.out.after hb3)
  have B3 := hide (B2.out.trans (hb3.mono B2.out.size))
  have z3 := hb3.size
  clear h3 hb3 y1 y2 M0 M1 M2 M3 Y1 Y2 B2 c0 f0 c2 f2
  go_wp2_with fail
  refine at_code5 w.heap.size 27 (w.heap.size + 1) 33 (w.heap.size + 1 + 1) 27 w1.heap.size 55 w3.heap.size 27 (fun W => Below w.heap.size w W ∧ Below w3.heap.size w3 W) (N0.out.alloc _) (N1.out.alloc _) (N2.out.alloc _) (N3.out.alloc _) (Blk.new _ _ _) ⟨B3.out.alloc B3.out.size _, (Below.refl _ _).alloc (Nat.le_refl _) _⟩ ?_
  rintro W3 k0 k1 k2 k3 k4 ⟨b3, b3'⟩
  have W1_ := hide (U32s.boxed V1.out b3' (L' := [w.heap.size, w.heap.size + 1, w.heap.size + 1 + 1, w1.heap.size, w3.heap.size]) (by simp <;> omega))
  have W2_ := hide (U32s.boxed V2.out b3' (L' := [w.heap.size, w.heap.size + 1, w.heap.size + 1 + 1, w1.heap.size, w3.heap.size]) (by simp <;> omega))
  have X1_ := hide (U32s.boxed X1.out b3' (L' := [w.heap.size, w.heap.size + 1, w.heap.size + 1 + 1, w1.heap.size, w3.heap.size]) (by simp <;> omega))
  have X2_ := hide (U32s.boxed X2.out b3' (L' := [w.heap.size, w.heap.size + 1, w.heap.size + 1 + 1, w1.heap.size, w3.heap.size]) (by simp <;> omega))
  clear V1 V2 X1 X2 N0 N1 N2 N3 B3
  have M0 := hide k0
  have M1 := hide k1
  have M2 := hide k2
  have M3 := hide k3
  have M4 := hide k4
  have B3 := hide b3
  obtain ⟨c0, f0⟩ := k0.rules
  obtain ⟨c2, f2⟩ := k2.rules
  obtain ⟨c3, f3⟩ := k3.rules
  obtain ⟨c4, f4⟩ := k4.rules
  have l0 := k0.lt
  have l1 := k1.lt
  have l2 := k2.lt
  have l3 := k3.lt
  have l4 := k4.lt
  have z4 := b3.size
  clear k0 k1 k2 k3 k4 b3 b3'
  have s0 : Below W3.heap.size W3 W3.drew := (Below.refl _ _).drew
  refine wp_region_seq [(0, 2), (1, 1), (2, 2), (3, 2), (4, 2), (5, 2), (6, 2), (7, 1), (8, 1), (9, 0), (10, 2), (11, 2)] (fun _ => true) (fun w' => Below W3.heap.size W3 w') (by kernel_rfl) (by kernel_rfl) ?_
  intro ops hops
  have HOPS := hide hops
  clear hops
  refine wpSeq_pure (o := ?ro1) (v := ?rv1) ?rh1 ?rg1 ?rq1 ?ry1 ?_
  case rh1 => rw [HOPS.out]; simp only [List.getElem?_toArray, List.getElem?_cons_succ, List.getElem?_cons_zero]; exact rfl
  case rg1 => rfl
  case rq1 => exact fun _ _ _ h => h
  case ry1 => intro w'; go_simp; try with_reducible rfl
  simp only [Act.put, List.setIfInBounds_toArray, List.set_cons_succ, List.set_cons_zero]
  refine wpSeq_read (o := ?ro2) (v := ?rv2) ?rh2 ?rg2 ?rq2 s0 ?ry2 ?_
  case rh2 => rw [HOPS.out]; simp only [List.getElem?_toArray, List.getElem?_cons_succ, List.getElem?_cons_zero]; exact rfl
  case rg2 => rfl
  case rq2 => exact fun _ _ _ h => h
  case ry2 => intro w' hs; obtain ⟨cc, ff⟩ := bcell hs; go_simp; try with_reducible rfl
  simp only [Act.put, List.setIfInBounds_toArray, List.set_cons_succ, List.set_cons_zero]
  refine wpSeq_pure (o := ?ro3) (v := ?rv3) ?rh3 ?rg3 ?rq3 ?ry3 ?_
  case rh3 => rw [HOPS.out]; simp only [List.getElem?_toArray, List.getElem?_cons_succ, List.getElem?_cons_zero]; exact rfl
  case rg3 => rfl
  case rq3 => exact fun _ _ _ h => h
  case ry3 => intro w'; go_simp; try with_reducible rfl
  simp only [Act.put, List.setIfInBounds_toArray, List.set_cons_succ, List.set_cons_zero]
  refine wpSeq_pure (o := ?ro4) (v := ?rv4) ?rh4 ?rg4 ?rq4 ?ry4 ?_
  case rh4 => rw [HOPS.out]; simp only [List.getElem?_toArray, List.getElem?_cons_succ, List.getElem?_cons_zero]; exact rfl
  case rg4 => rfl
  case rq4 => exact fun _ _ _ h => h
  case ry4 => intro w'; go_simp; try with_reducible rfl
  simp only [Act.put, List.setIfInBounds_toArray, List.set_cons_succ, List.set_cons_zero]
  refine wpSeq_skip (o := ?ro5) ?rh5 ?rg5 ?rq5 ?_
  case rh5 => rw [HOPS.out]; simp only [List.getElem?_toArray, List.getElem?_cons_succ, List.getElem?_cons_zero]; exact rfl
  case rg5 => rw [HOPS.out]; rfl
  case rq5 => exact fun _ _ _ h => h
  simp only [Act.put, List.setIfInBounds_toArray, List.set_cons_succ, List.set_cons_zero]
  refine wpSeq_skip (o := ?ro6) ?rh6 ?rg6 ?rq6 ?_
  case rh6 => rw [HOPS.out]; simp only [List.getElem?_toArray, List.getElem?_cons_succ, List.getElem?_cons_zero]; exact rfl
  case rg6 => rw [HOPS.out]; rfl
  case rq6 => exact fun _ _ _ h => h
  simp only [Act.put, List.setIfInBounds_toArray, List.set_cons_succ, List.set_cons_zero]
  refine wpSeq_skip (o := ?ro7) ?rh7 ?rg7 ?rq7 ?_
  case rh7 => rw [HOPS.out]; simp only [List.getElem?_toArray, List.getElem?_cons_succ, List.getElem?_cons_zero]; exact rfl
  case rg7 => rw [HOPS.out]; rfl
  case rq7 => exact fun _ _ _ h => h
  simp only [Act.put, List.setIfInBounds_toArray, List.set_cons_succ, List.set_cons_zero]
  refine wpSeq_skip1 (o := ?ro8) ?rh8 ?rg8 ?rq8 s0 ?_
  case rh8 => rw [HOPS.out]; simp only [List.getElem?_toArray, List.getElem?_cons_succ, List.getElem?_cons_zero]; exact rfl
  case rg8 => rw [HOPS.out]; rfl
  case rq8 => exact fun _ _ _ h => h
  simp only [Act.put, List.setIfInBounds_toArray, List.set_cons_succ, List.set_cons_zero]
  refine wpSeq_skip1 (o := ?ro9) ?rh9 ?rg9 ?rq9 s0 ?_
  case rh9 => rw [HOPS.out]; simp only [List.getElem?_toArray, List.getElem?_cons_succ, List.getElem?_cons_zero]; exact rfl
  case rg9 => rw [HOPS.out]; rfl
  case rq9 => exact fun _ _ _ h => h
  simp only [Act.put, List.setIfInBounds_toArray, List.set_cons_succ, List.set_cons_zero]
  refine wpSeq_step (o := ?ro10) ?rh10 (fun K hK => ?_)
  case rh10 => rw [HOPS.out]; simp only [List.getElem?_toArray, List.getElem?_cons_succ, List.getElem?_cons_zero]; exact rfl
  rw [HOPS.out]
  go_simp
  refine hK _ _ (fun _ h => h) ?_
  clear hK K
  refine wpSeq_skip (o := ?ro11) ?rh11 ?rg11 ?rq11 ?_
  case rh11 => rw [HOPS.out]; simp only [List.getElem?_toArray, List.getElem?_cons_succ, List.getElem?_cons_zero]; exact rfl
  case rg11 => rw [HOPS.out]; rfl
  case rq11 => exact fun _ _ _ h => h
  simp only [Act.put, List.setIfInBounds_toArray, List.set_cons_succ, List.set_cons_zero]
  refine wpSeq_pure (o := ?ro12) (v := ?rv12) ?rh12 ?rg12 ?rq12 ?ry12 ?_
  case rh12 => rw [HOPS.out]; simp only [List.getElem?_toArray, List.getElem?_cons_succ, List.getElem?_cons_zero]; exact rfl
  case rg12 => rfl
  case rq12 => exact fun _ _ _ h => h
  case ry12 => intro w'; go_simp; try with_reducible rfl
  simp only [Act.put, List.setIfInBounds_toArray, List.set_cons_succ, List.set_cons_zero]
  refine wpSeq_nil ?_
  go_wp2_with fail
  refine bodyPost_ret (v := .tuple #[.agg #[.int .u8 x.r, .int .u32 x.n, .int .u32 x.item, .int .u32 x.qty, .int .u32 x.price, .int .u8 x.vr, .int .u32 x.vn, .slice A3 x.ap.length a3, .slice A3' x.re.length a3', .int .u8 x.st], .int .i64 278]) (by simp [results, Try.results9, go_sem, c2, f2]) rfl ⟨_, rfl, ⟨A3, a3, A3', a3', rfl, ?_, ?_⟩, ?_⟩
  · refine Rp.ends _ (L := [w.heap.size, w.heap.size + 1, w.heap.size + 1 + 1, w1.heap.size, w3.heap.size]) ?_
    repeat (first | with_reducible refine Rp.drew_ _ ?_ | with_reducible refine Rp.stored _ ?_ (by simp) _)
    exact W1_.out
  · refine Rp.ends _ (L := [w.heap.size, w.heap.size + 1, w.heap.size + 1 + 1, w1.heap.size, w3.heap.size]) ?_
    repeat (first | with_reducible refine Rp.drew_ _ ?_ | with_reducible refine Rp.stored _ ?_ (by simp) _)
    exact W2_.out
  · repeat (first | with_reducible refine Below.drew ?_ | with_reducible refine Below.setCell ?_ (by simp <;> omega) _)
    exact B3.out


set_option maxHeartbeats 1000000 in
theorem act_remove (D : Nat → Prop) (cs : List Value) (oa : Array Value) (x : LineM) (o : OpM) (w : World) (hx : LineR.at_ w D cs x) (ho : OpAt oa o) (ha : x.ap.length ≤ 1000) (hb : x.re.length ≤ 1000) (hkd : o.kind = 5) (hst : x.st = 0) :
    Calls Try.prog 9 #[.agg cs.toArray, .agg oa] w fun e w' => ∃ cs', e = .returned (.tuple #[.agg cs'.toArray, .int .i64 0]) ∧ LineR.at_ w' (dom D w.heap.size [] w') cs' { x with st := 1 } ∧ Below w.heap.size w w' := by
  have hk : 0 ≤ kidx o.kind := by rw [hkd]; decide
  have hki : kidx o.kind = 1 := by rw [hkd]; decide
  have HKI := hide hki
  have hsb : (x.st != 0) = false := by simp [hst]
  clear hst hki hkd
  obtain ⟨A, c, A', c', rfl, hx1, hx2⟩ := hx
  have HO := hide ho
  have hcs := hide ho.kind
  clear ho
  go_enter Try.func9, Try.ntmps9
  go_wp2_with fail
  refine at_call3 w.heap.size 27 (w.heap.size + 1) 33 (w.heap.size + 1 + 1) 27 (fun W => Below w.heap.size w W) (((Blk.new _ _ _).alloc _).alloc _) ((Blk.new_ (by simp)).alloc _) (Blk.new_ (by simp)) ((((Below.refl _ _).alloc (Nat.le_refl _) _).alloc (by simp) _).alloc (by simp <;> omega) _) ?_
  rintro W k0 k1 k2 b0
  have hx1 := U32s.boxed (U32s.start hx1) b0 (L' := [w.heap.size, w.heap.size + 1, w.heap.size + 1 + 1]) (by simp <;> omega)
  have hx2 := U32s.boxed (U32s.start hx2) b0 (L' := [w.heap.size, w.heap.size + 1, w.heap.size + 1 + 1]) (by simp <;> omega)
  refine (acts_any W).mono ?_
  rintro e w1 ⟨rfl, hb1⟩
  have K0 := hide (k0.after hb1)
  have K1 := hide (k1.after hb1)
  have K2 := hide (k2.after hb1)
  have X1 := hide (U32s.after hx1 hb1)
  have X2 := hide (U32s.after hx2 hb1)
  have B1 := hide (b0.trans (hb1.mono b0.size))
  clear k0 k1 k2 b0 hb1 hx1 hx2
  go_wp2_with fail
  refine at_call4 w.heap.size 27 (w.heap.size + 1) 33 (w.heap.size + 1 + 1) 27 w1.heap.size 55 (fun W => Below w.heap.size w W ∧ Below w1.heap.size w1 W) (K0.out.alloc _) (K1.out.alloc _) (K2.out.alloc _) (Blk.new _ _ _) ⟨B1.out.alloc B1.out.size _, (Below.refl _ _).alloc (Nat.le_refl _) _⟩ ?_
  rintro W1 k0 k1 k2 k3 ⟨b1, b1'⟩
  refine (kindex_any W1 _ _ _ oa o.kind k1 hcs.out k3).mono ?_
  rintro e w2 ⟨rfl, hb2⟩
  have Y1 := hide (U32s.boxed X1.out (b1'.trans (hb2.mono b1'.size)) (L' := [w.heap.size, w.heap.size + 1, w.heap.size + 1 + 1, w1.heap.size]) (by simp <;> omega))
  have Y2 := hide (U32s.boxed X2.out (b1'.trans (hb2.mono b1'.size)) (L' := [w.heap.size, w.heap.size + 1, w.heap.size + 1 + 1, w1.heap.size]) (by simp <;> omega))
  have M0 := hide (k0.after hb2)
  have M1 := hide (k1.after hb2)
  have M2 := hide (k2.after hb2)
  have M3 := hide (k3.after hb2)
  have B2 := hide (b1.trans (hb2.mono b1.size))
  clear k0 k1 k2 k3 b1 b1' hb2 K0 K1 K2 X1 X2 B1
  obtain ⟨c0, f0⟩ := M0.out.rules
  obtain ⟨c2, f2⟩ := M2.out.rules
  have l2 := M2.out.lt
  have l3 := M3.out.lt
  have hki := HKI.out
  go_wp2_with fail
  have HL4 : Hid (∀ g ∈ [w.heap.size, w.heap.size + 1, w.heap.size + 1 + 1, w1.heap.size], g < w2.heap.size) := by intro g hg; simp at hg; omega
  refine (copied_any _ _ x _ ⟨A, c, A', c', rfl, Y1.out, Y2.out⟩ (by omega) (by omega)).mono ?_
  rintro e w3 ⟨cs3, rfl, h3, hb3⟩
  obtain ⟨A3, a3, A3', a3', rfl, y1, y2⟩ := LineR.called h3 HL4.out B2.out.size
  have V1 := hide y1
  have V2 := hide y2
  have X1 := hide (U32s.after Y1.out hb3)
  have X2 := hide (U32s.after Y2.out hb3)
  have N0 := hide (M0.out.after hb3)
  have N1 := hide (M1.out.after hb3)
  have N2 := hide (M2.out.after hb3)
  have N3 := hide (M3.out.after hb3)
  have B3 := hide (B2.out.trans (hb3.mono B2.out.size))
  have z3 := hb3.size
  clear h3 hb3 y1 y2 M0 M1 M2 M3 Y1 Y2 B2 c0 f0 c2 f2
  go_wp2_with fail
  refine at_code5 w.heap.size 27 (w.heap.size + 1) 33 (w.heap.size + 1 + 1) 27 w1.heap.size 55 w3.heap.size 27 (fun W => Below w.heap.size w W ∧ Below w3.heap.size w3 W) (N0.out.alloc _) (N1.out.alloc _) (N2.out.alloc _) (N3.out.alloc _) (Blk.new _ _ _) ⟨B3.out.alloc B3.out.size _, (Below.refl _ _).alloc (Nat.le_refl _) _⟩ ?_
  rintro W3 k0 k1 k2 k3 k4 ⟨b3, b3'⟩
  have W1_ := hide (U32s.boxed V1.out b3' (L' := [w.heap.size, w.heap.size + 1, w.heap.size + 1 + 1, w1.heap.size, w3.heap.size]) (by simp <;> omega))
  have W2_ := hide (U32s.boxed V2.out b3' (L' := [w.heap.size, w.heap.size + 1, w.heap.size + 1 + 1, w1.heap.size, w3.heap.size]) (by simp <;> omega))
  have X1_ := hide (U32s.boxed X1.out b3' (L' := [w.heap.size, w.heap.size + 1, w.heap.size + 1 + 1, w1.heap.size, w3.heap.size]) (by simp <;> omega))
  have X2_ := hide (U32s.boxed X2.out b3' (L' := [w.heap.size, w.heap.size + 1, w.heap.size + 1 + 1, w1.heap.size, w3.heap.size]) (by simp <;> omega))
  clear V1 V2 X1 X2 N0 N1 N2 N3 B3
  have M0 := hide k0
  have M1 := hide k1
  have M2 := hide k2
  have M3 := hide k3
  have M4 := hide k4
  have B3 := hide b3
  obtain ⟨c0, f0⟩ := k0.rules
  obtain ⟨c2, f2⟩ := k2.rules
  obtain ⟨c3, f3⟩ := k3.rules
  obtain ⟨c4, f4⟩ := k4.rules
  have l0 := k0.lt
  have l1 := k1.lt
  have l2 := k2.lt
  have l3 := k3.lt
  have l4 := k4.lt
  have z4 := b3.size
  clear k0 k1 k2 k3 k4 b3 b3'
  have s0 : Below W3.heap.size W3 W3.drew := (Below.refl _ _).drew
  refine wp_region_seq [(0, 2), (1, 1), (2, 2), (3, 2), (4, 2), (5, 2), (6, 2), (7, 1), (8, 1), (9, 0), (10, 2), (11, 2)] (fun j => !(j == 9)) (fun w' => Below W3.heap.size W3 w') (by kernel_rfl) (by kernel_rfl) ?_
  intro ops hops
  have HOPS := hide hops
  clear hops
  refine wpSeq_pure (o := ?ro13) (v := ?rv13) ?rh13 ?rg13 ?rq13 ?ry13 ?_
  case rh13 => rw [HOPS.out]; simp only [List.getElem?_toArray, List.getElem?_cons_succ, List.getElem?_cons_zero]; exact rfl
  case rg13 => rfl
  case rq13 => exact fun _ _ _ h => h
  case ry13 => intro w'; go_simp; try with_reducible rfl
  simp only [Act.put, List.setIfInBounds_toArray, List.set_cons_succ, List.set_cons_zero]
  refine wpSeq_read (o := ?ro14) (v := ?rv14) ?rh14 ?rg14 ?rq14 s0 ?ry14 ?_
  case rh14 => rw [HOPS.out]; simp only [List.getElem?_toArray, List.getElem?_cons_succ, List.getElem?_cons_zero]; exact rfl
  case rg14 => rfl
  case rq14 => exact fun _ _ _ h => h
  case ry14 => intro w' hs; obtain ⟨cc, ff⟩ := bcell hs; go_simp; try with_reducible rfl
  simp only [Act.put, List.setIfInBounds_toArray, List.set_cons_succ, List.set_cons_zero]
  refine wpSeq_pure (o := ?ro15) (v := ?rv15) ?rh15 ?rg15 ?rq15 ?ry15 ?_
  case rh15 => rw [HOPS.out]; simp only [List.getElem?_toArray, List.getElem?_cons_succ, List.getElem?_cons_zero]; exact rfl
  case rg15 => rfl
  case rq15 => exact fun _ _ _ h => h
  case ry15 => intro w'; go_simp; try with_reducible rfl
  simp only [Act.put, List.setIfInBounds_toArray, List.set_cons_succ, List.set_cons_zero]
  refine wpSeq_pure (o := ?ro16) (v := ?rv16) ?rh16 ?rg16 ?rq16 ?ry16 ?_
  case rh16 => rw [HOPS.out]; simp only [List.getElem?_toArray, List.getElem?_cons_succ, List.getElem?_cons_zero]; exact rfl
  case rg16 => rfl
  case rq16 => exact fun _ _ _ h => h
  case ry16 => intro w'; go_simp; try with_reducible rfl
  simp only [Act.put, List.setIfInBounds_toArray, List.set_cons_succ, List.set_cons_zero]
  refine wpSeq_pure (o := ?ro17) (v := ?rv17) ?rh17 ?rg17 ?rq17 ?ry17 ?_
  case rh17 => rw [HOPS.out]; simp only [List.getElem?_toArray, List.getElem?_cons_succ, List.getElem?_cons_zero]; exact rfl
  case rg17 => rw [HOPS.out]; rfl
  case rq17 => exact fun _ _ _ h => h
  case ry17 => intro w'; go_simp; try with_reducible rfl
  simp only [Act.put, List.setIfInBounds_toArray, List.set_cons_succ, List.set_cons_zero]
  refine wpSeq_pure (o := ?ro18) (v := ?rv18) ?rh18 ?rg18 ?rq18 ?ry18 ?_
  case rh18 => rw [HOPS.out]; simp only [List.getElem?_toArray, List.getElem?_cons_succ, List.getElem?_cons_zero]; exact rfl
  case rg18 => rw [HOPS.out]; rfl
  case rq18 => exact fun _ _ _ h => h
  case ry18 => intro w'; go_simp; try with_reducible rfl
  simp only [Act.put, List.setIfInBounds_toArray, List.set_cons_succ, List.set_cons_zero]
  refine wpSeq_pure (o := ?ro19) (v := ?rv19) ?rh19 ?rg19 ?rq19 ?ry19 ?_
  case rh19 => rw [HOPS.out]; simp only [List.getElem?_toArray, List.getElem?_cons_succ, List.getElem?_cons_zero]; exact rfl
  case rg19 => rw [HOPS.out]; rfl
  case rq19 => exact fun _ _ _ h => h
  case ry19 => intro w'; go_simp; try with_reducible rfl
  simp only [Act.put, List.setIfInBounds_toArray, List.set_cons_succ, List.set_cons_zero]
  refine wpSeq_read (o := ?ro20) (v := ?rv20) ?rh20 ?rg20 ?rq20 s0 ?ry20 ?_
  case rh20 => rw [HOPS.out]; simp only [List.getElem?_toArray, List.getElem?_cons_succ, List.getElem?_cons_zero]; exact rfl
  case rg20 => rw [HOPS.out]; rfl
  case rq20 => exact fun _ _ _ h => h
  case ry20 => intro w' hs; obtain ⟨cc, ff⟩ := bcell hs; go_simp; try with_reducible rfl
  simp only [Act.put, List.setIfInBounds_toArray, List.set_cons_succ, List.set_cons_zero]
  refine wpSeq_read (o := ?ro21) (v := ?rv21) ?rh21 ?rg21 ?rq21 s0 ?ry21 ?_
  case rh21 => rw [HOPS.out]; simp only [List.getElem?_toArray, List.getElem?_cons_succ, List.getElem?_cons_zero]; exact rfl
  case rg21 => rw [HOPS.out]; rfl
  case rq21 => exact fun _ _ _ h => h
  case ry21 => intro w' hs; obtain ⟨cc, ff⟩ := bcell hs; refine exec_load_row (ρ := Act.eval _) 33 (.tmp 3) ?_ (w.heap.size + 1) ?_ 33 oa _ (M1.out.after hs) Try.underlying33 rfl (by rw [HO.out.size]; kernel_rfl) <;> rfl; try with_reducible rfl
  simp only [Act.put, List.setIfInBounds_toArray, List.set_cons_succ, List.set_cons_zero]
  refine wpSeq_step (o := ?ro22) ?rh22 (fun K hK => ?_)
  case rh22 => rw [HOPS.out]; simp only [List.getElem?_toArray, List.getElem?_cons_succ, List.getElem?_cons_zero]; exact rfl
  rw [HOPS.out]
  go_simp
  refine (acts2_any w.heap.size _ oa _ M0.out.drew rfl).mono ?_
  rintro e w4 ⟨rfl, hk4, hg4⟩
  simp at hk4
  have hg4 := undrewG hg4
  have P2 := hide (M2.out.grown hg4 (by omega))
  have P4 := hide (M4.out.grown hg4 (by omega))
  have V1 := hide (Rp.grown_ _ W1_.out hg4 (by simp))
  have V2 := hide (Rp.grown_ _ W2_.out hg4 (by simp))
  have U1 := hide (Rp.grown_ _ X1_.out hg4 (by simp))
  have U2 := hide (Rp.grown_ _ X2_.out hg4 (by simp))
  have B4 := hide (below_grown0 B3.out hg4 (Nat.le_refl _) z4)
  have z5 := hg4.size
  have P0 := hide hk4
  obtain ⟨d0, e0⟩ := P0.out.rules
  obtain ⟨d2, e2⟩ := P2.out.rules
  obtain ⟨d4, e4⟩ := P4.out.rules
  clear hk4 hg4 c0 f0 c2 f2 c3 f3 c4 f4 W1_ W2_ X1_ X2_
  refine hK _ _ (fun h => by cases h) ?_
  clear hK K
  refine wpSeq_pure (o := ?ro23) (v := ?rv23) ?rh23 ?rg23 ?rq23 ?ry23 ?_
  case rh23 => rw [HOPS.out]; simp only [List.getElem?_toArray, List.getElem?_cons_succ, List.getElem?_cons_zero]; exact rfl
  case rg23 => rw [HOPS.out]; rfl
  case rq23 => exact fun _ _ _ h => h
  case ry23 => intro w'; go_simp; try with_reducible rfl
  simp only [Act.put, List.setIfInBounds_toArray, List.set_cons_succ, List.set_cons_zero]
  refine wpSeq_pure (o := ?ro24) (v := ?rv24) ?rh24 ?rg24 ?rq24 ?ry24 ?_
  case rh24 => rw [HOPS.out]; simp only [List.getElem?_toArray, List.getElem?_cons_succ, List.getElem?_cons_zero]; exact rfl
  case rg24 => rfl
  case rq24 => exact fun _ _ _ h => h
  case ry24 => intro w'; go_simp; try with_reducible rfl
  simp only [Act.put, List.setIfInBounds_toArray, List.set_cons_succ, List.set_cons_zero]
  refine wpSeq_nil ?_
  go_wp2_with fail
  have HL5 : Hid (∀ g ∈ [w.heap.size, w.heap.size + 1, w.heap.size + 1 + 1, w1.heap.size, w3.heap.size], g < w4.heap.size) := by intro g hg; simp at hg; omega
  refine (copied_any (dom D w.heap.size [w.heap.size, w.heap.size + 1, w.heap.size + 1 + 1, w1.heap.size, w3.heap.size] w4) _ { x with st := 1 } _ ⟨_, _, _, _, rfl, U1.out, U2.out⟩ (by show x.ap.length ≤ _; omega) (by show x.re.length ≤ _; omega)).mono ?_
  rintro e w5 ⟨cs5, rfl, h5, hb5⟩
  obtain ⟨A5, a5, A5', a5', rfl, y1, y2⟩ := LineR.called h5 HL5.out B4.out.size
  have V3 := hide y1
  have V4 := hide y2
  have Q2 := hide (P2.out.after hb5)
  have B5 := hide (B4.out.trans (hb5.mono B4.out.size))
  obtain ⟨q2, r2⟩ := Q2.out.rules
  clear h5 hb5 y1 y2 d0 e0 d2 e2 d4 e4
  go_wp2_with fail
  refine bodyPost_ret (v := .tuple #[.agg #[.int .u8 x.r, .int .u32 x.n, .int .u32 x.item, .int .u32 x.qty, .int .u32 x.price, .int .u8 x.vr, .int .u32 x.vn, .slice A5 x.ap.length a5, .slice A5' x.re.length a5', .int .u8 1], .int .i64 0]) (by simp [results, Try.results9, go_sem, q2, r2]) rfl ⟨_, rfl, ⟨A5, a5, A5', a5', rfl, ?_, ?_⟩, ?_⟩
  · refine Rp.ends _ (L := [w.heap.size, w.heap.size + 1, w.heap.size + 1 + 1, w1.heap.size, w3.heap.size]) ?_
    repeat (first | with_reducible refine Rp.drew_ _ ?_ | with_reducible refine Rp.stored _ ?_ (by simp) _)
    exact V3.out
  · refine Rp.ends _ (L := [w.heap.size, w.heap.size + 1, w.heap.size + 1 + 1, w1.heap.size, w3.heap.size]) ?_
    repeat (first | with_reducible refine Rp.drew_ _ ?_ | with_reducible refine Rp.stored _ ?_ (by simp) _)
    exact V4.out
  · repeat (first | with_reducible refine Below.drew ?_ | with_reducible refine Below.setCell ?_ (by simp <;> omega) _)
    exact B5.out


end Go.Proofs.Ytfdgflhbooaomaa
