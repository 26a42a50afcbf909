/- walks: op, line.Add; array forms of contracts -/
import Derived.Test.YtfdgflhbooaomaaLine11
import Derived.Test.YtfdgflhbooaomaaBox
namespace Go.Proofs.Ytfdgflhbooaomaa
open Go.RowKit

def opM (n kind who ver : Int) : OpM := ⟨0, n, 0, 0, 0, 0, 0, 0, 0, 0, 0, who, 0, 0, kind, 0, 0, 0, 0, 0, 0, 0, 0, 0, ver, 0, 4, 0, []⟩

theorem wpList_built {P : Program} {ops : Array Oper} {rest : List Oper} {o : Oper} {a : Act} {w : World} {Q : Exit → Act → World → Prop} (hg : o.guard = none) (t : TypeId) (parts : Array (Nat × Operand)) (ho : o.op = .build t parts) (cells : Array Value)
    (l : List (Nat × Value)) (hl : (parts.map fun (i, x) => (i, a.eval x)).toList = l) (hb : P.built t l = some cells) (h : wpList P ops Q rest (a.put o.dst (.agg cells)) w) : wpList P ops Q (o :: rest) a w := by
  subst hl
  exact wpList_build hg t parts ho (by rw [hb]; rfl) (by rw [hb]; exact h)

theorem op_built (n kind who ver : Int) : ∃ oa, Try.prog.built 33 [(0, .agg #[.int .u8 0, .int .u32 n]), (5, .int .u8 kind), (3, .int .u32 who), (12, .agg #[.int .u8 0, .int .u32 ver]), (14, .int .u32 4)] = some oa ∧ OpAt oa (opM n kind who ver) :=
  ⟨#[.int .u8 0, .int .u32 n, .int .u32 0, .int .u32 0, .int .u32 0, .int .u32 0, .int .u32 0, .int .u32 0, .int .u32 0, .int .u32 0, .int .u64 0, .int .u32 who, .int .u8 0, .int .u32 0, .int .u8 kind, .int .u8 0, .int .u32 0, .int .u32 0, .int .u8 0, .int .u8 0, .int .u64 0, .int .u8 0, .int .u32 0, .int .u8 0, .int .u32 ver, .int .u32 0, .int .u32 4, .int .u32 0, .slice none 0 0], by kernel_rfl, rfl, rfl, rfl, rfl, rfl, rfl, rfl, rfl, rfl, rfl, fun u hu => (List.all_eq_true.1 rfl) u hu⟩

set_option maxHeartbeats 400000 in
theorem op_any (n kind who ver : Int) (w : World) : Calls Try.prog 21 #[.int .u32 n, .int .u8 kind, .int .u32 who, .int .u32 ver] w fun e w' => ∃ oa, e = .returned (.agg oa) ∧ OpAt oa (opM n kind who ver) ∧ Below w.heap.size w w' := by
  obtain ⟨oa, hb, ho⟩ := op_built n kind who ver
  have HB := hide hb
  have HO := hide ho
  clear hb ho
  go_enter Try.func21, Try.ntmps21
  go_upto_region 1 with fail
  refine at_code1 w.heap.size 33 (fun W => Below w.heap.size w W) (Blk.new _ _ _) ((Below.refl _ _).alloc (Nat.le_refl _) _) ?_
  intro W k0 b0
  have hz := hide (show (#[.int .u8 0, .int .u32 0, .int .u32 0, .int .u32 0, .int .u32 0, .int .u32 0, .int .u32 0, .int .u32 0, .int .u32 0, .int .u32 0, .int .u64 0, .int .u32 0, .int .u8 0, .int .u32 0, .int .u8 0, .int .u8 0, .int .u32 0, .int .u32 0, .int .u8 0, .int .u8 0, .int .u64 0, .int .u8 0, .int .u32 0, .int .u8 0, .int .u32 0, .int .u32 0, .int .u32 0, .int .u32 0, .slice none 0 0] : Array Value).size = 29 from rfl)
  have K0 := hide k0
  have B0 := hide b0
  clear k0 b0
  apply wp_region_lit
  refine wpList_plain rfl (fun K hK => ?_)
  go_simp
  refine hK _ _ ?_
  clear hK K
  refine wpList_plain rfl (fun K hK => ?_)
  go_simp
  refine hK _ _ ?_
  clear hK K
  refine wpList_plain rfl (fun K hK => ?_)
  go_simp
  refine hK _ _ ?_
  clear hK K
  refine wpList_plain rfl (fun K hK => ?_)
  go_simp
  refine hK _ _ ?_
  clear hK K
  refine wpList_plain rfl (fun K hK => ?_)
  go_simp
  refine hK _ _ ?_
  clear hK K
  refine wpList_plain rfl (fun K hK => ?_)
  go_simp
  refine hK _ _ ?_
  clear hK K
  refine wpList_built rfl 33 _ rfl oa _ ?hl HB.out ?_
  case hl => simp [Act.eval]
  refine wpList_store_row rfl 33 (.tmp 8) (.tmp 15) rfl w.heap.size oa rfl rfl 33 _ K0.out (by rw [HO.out.size]; kernel_rfl) (by rw [HO.out.size]; exact hz.out) (by rw [Array.all_eq_true_iff_forall_mem]; intro u hu; exact HO.out.one u (by simpa using hu)) ?_
  have K1 := hide (show Blk (W.setRow w.heap.size oa) w.heap.size 33 oa from setRow_heap _ _ _ _ _ _ K0.out)
  have B1 := hide (show Below w.heap.size w (W.setRow w.heap.size oa) from B0.out.trans ⟨rfl, rfl, rfl, by simp, fun k hk => setRow_other _ _ k _ (by omega)⟩)
  generalize W.setRow w.heap.size oa = W' at *
  go_wp2_with fail
  exact bodyPost_ret (results_cell_row rfl _ _ w.heap.size 33 oa (0, 0) _ rfl K1.out Try.underlying33 rfl (by rw [HO.out.size]; kernel_rfl)) rfl ⟨_, rfl, HO.out, B1.out⟩

def addM (o : OpM) : LineM × Int := if o.kind = 3 then (⟨o.r, o.n, o.item, o.qty, o.price, o.r, o.n, [], [], 0⟩, 0) else (zeroLine, 2)

set_option maxHeartbeats 1000000 in
theorem add_any (oa : Array Value) (o : OpM) (w : World) (ho : OpAt oa o) : Calls Try.prog 15 #[.agg oa] w fun e w' => ∃ cs', e = .returned (.tuple #[.agg cs'.toArray, .int .i64 (addM o).2]) ∧ LineR.at_ w' (fun _ => False) cs' (addM o).1 ∧ Below w.heap.size w w' := by
  have h0 := ho.r
  have h1 := ho.n
  have h2 := ho.kind
  have h3 := ho.item
  have h4 := ho.qty
  have h5 := ho.price
  clear ho
  by_cases hk : o.kind = 3
  · have hkb : (o.kind != 3) = false := by simp [hk]
    have HM := hide (show addM o = (⟨o.r, o.n, o.item, o.qty, o.price, o.r, o.n, [], [], 0⟩, 0) from by unfold addM; rw [if_pos hk])
    clear hk
    go_enter Try.func15, Try.ntmps15
    go_wp2
    rw [HM.out]
    refine bodyPost_ret (v := .tuple #[.agg #[.int .u8 o.r, .int .u32 o.n, .int .u32 o.item, .int .u32 o.qty, .int .u32 o.price, .int .u8 o.r, .int .u32 o.n, .slice none 0 0, .slice none 0 0, .int .u8 0], .int .i64 0]) (by simp [results, Try.results15, go_sem]) rfl ⟨_, rfl, ⟨none, 0, none, 0, rfl, Rp.slice_nil, Rp.slice_nil⟩, ?_⟩
    repeat (first | with_reducible refine Below.drew ?_ | with_reducible refine Below.setCell ?_ (by simp <;> omega) _)
    exact ((Below.refl _ _).alloc (Nat.le_refl _) _).alloc (by simp) _
  · have hkb : (o.kind != 3) = true := by simp [hk]
    have HM := hide (show addM o = (zeroLine, 2) from by unfold addM; rw [if_neg hk])
    clear hk
    go_enter Try.func15, Try.ntmps15
    go_wp2
    rw [HM.out]
    refine bodyPost_ret (v := .tuple #[.agg #[.int .u8 0, .int .u32 0, .int .u32 0, .int .u32 0, .int .u32 0, .int .u8 0, .int .u32 0, .slice none 0 0, .slice none 0 0, .int .u8 0], .int .i64 2]) (by simp [results, Try.results15, go_sem]) rfl ⟨_, rfl, ⟨none, 0, none, 0, rfl, Rp.slice_nil, Rp.slice_nil⟩, ?_⟩
    repeat (first | with_reducible refine Below.drew ?_ | with_reducible refine Below.setCell ?_ (by simp <;> omega) _)
    exact ((Below.refl _ _).alloc (Nat.le_refl _) _).alloc (by simp) _

theorem act_arr (D : Nat → Prop) (ca oa : Array Value) (x : LineM) (o : OpM) (w : World) (hx : LineR.at_ w D ca.toList x) (ho : OpAt oa o) (ha : x.ap.length ≤ 1000) (hb : x.re.length ≤ 1000) (hua : rising x.ap = true) (hub : rising x.re = true) :
    Calls Try.prog 9 #[.agg ca, .agg oa] w fun e w' => ∃ ca' : Array Value, e = .returned (.tuple #[.agg ca', .int .i64 (actM x o).2]) ∧ LineR.at_ w' (dom D w.heap.size [] w') ca'.toList (actM x o).1 ∧ Below w.heap.size w w' := by
  have := act_any D ca.toList oa x o w hx ho ha hb hua hub
  simp only [Array.toArray_toList] at this
  refine this.mono ?_
  rintro e w' ⟨cs', rfl, h1, h2⟩
  exact ⟨cs'.toArray, rfl, by simpa using h1, h2⟩

/-- a whole struct stored -/
theorem step_store_row {P : Program} {ops : Array Oper} {o : Oper} {a : Act} {w : World} {K : Act → World → Prop} {Q : Exit → Act → World → Prop} {E : Prop} (hgd : o.guard = none) (ty : TypeId) (x y : Operand) (ho : o.op = .store ty x y)
    (g : Nat) (cells : Array Value) (hx : a.eval x = .pointer (some ⟨g, 0, none⟩)) (hy : a.eval y = .agg cells) (t : TypeId) (old : Array Value) (hg : Blk w g t old) (hi : (P.info? ty).map (·.size) = some cells.size)
    (hold : old.size = cells.size) (h1 : ∀ u ∈ cells.toList, u.oneCell' = true) (h : K (a.put o.dst undef) (w.setRow g cells)) : if Region.wanted o (yielded ops a.tmps) = true then o.wp P a w K Q else E := by
  rw [if_pos (show Region.wanted o (yielded ops a.tmps) = true from by simp [Region.wanted, hgd])]
  exact wp_store_row ty x y ho g cells hx hy t old hg hi hold (by rw [Array.all_eq_true_iff_forall_mem]; intro u hu; exact h1 u (by simpa using hu)) h

end Go.Proofs.Ytfdgflhbooaomaa
