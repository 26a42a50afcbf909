/- walks: head -/
import Derived.Test.YtfdgflhbooaomaaHeadS
namespace Go.Proofs.Ytfdgflhbooaomaa
open Go.RowKit

def addO : OpM := ⟨0, 3, 0, 0, 0, 0, 0, 0, 0, 0, 0, 0, 0, 0, 3, 0, 0, 0, 0, 0, 0, 0, 0, 0, 0, 5, 2, 10, []⟩
theorem addop_built : ∃ aa, Try.prog.built 33 [(0, .agg #[.int .u8 0, .int .u32 3]), (5, .int .u8 3), (13, .int .u32 5), (14, .int .u32 2), (15, .int .u32 10)] = some aa ∧ OpAt aa addO :=
  ⟨#[.int .u8 0, .int .u32 3, .int .u32 0, .int .u32 0, .int .u32 0, .int .u32 0, .int .u32 0, .int .u32 0, .int .u32 0, .int .u32 0, .int .u64 0, .int .u32 0, .int .u8 0, .int .u32 0, .int .u8 3, .int .u8 0, .int .u32 0, .int .u32 0, .int .u8 0, .int .u8 0, .int .u64 0, .int .u8 0, .int .u32 0, .int .u8 0, .int .u32 0, .int .u32 5, .int .u32 2, .int .u32 10, .slice none 0 0], by kernel_rfl, rfl, rfl, rfl, rfl, rfl, rfl, rfl, rfl, rfl, rfl, fun u hu => (List.all_eq_true.1 rfl) u hu⟩
def X0 : LineM := ⟨0, 3, 5, 2, 10, 0, 3, [], [], 0⟩

def Xa : LineM := ⟨0, 3, 5, 2, 10, 0, 3, [1], [], 0⟩
def Xb : LineM := ⟨0, 3, 5, 4, 10, 0, 7, [], [], 0⟩
def Xc : LineM := ⟨0, 3, 5, 4, 10, 0, 7, [1], [], 0⟩
def Xd : LineM := ⟨0, 3, 5, 4, 10, 0, 7, [1], [3], 0⟩
def Xr : LineM := ⟨0, 3, 5, 2, 10, 0, 3, [], [], 1⟩

set_option maxRecDepth 100000 in
set_option maxHeartbeats 2000000 in
theorem head_any (w : World) : Calls Try.prog 8 #[] w fun e w' => e = .returned (.bool true) ∧ Below w.heap.size w w' := by
  obtain ⟨aa, haa, hoa⟩ := addop_built
  have HB := hide haa
  have HO := hide hoa
  clear haa hoa
  go_enter Try.func8, Try.ntmps8
  go_upto_region 1 with fail
  apply wp_region_lit
  refine wpList_plain rfl (fun K hK => ?_)
  go_simp
  refine hK _ _ ?_
  clear hK K
  refine wpList_built rfl 33 _ rfl aa _ ?hl1 HB.out ?_
  case hl1 => simp [Act.eval]
  refine wpList_plain rfl (fun K hK => ?_)
  go_simp
  refine hK _ _ ?_
  clear hK K
  refine wpList_store_row rfl 33 (.tmp 1) (.tmp 21) rfl w.heap.size aa rfl rfl 33 _ (heap_alloc_new _ _) (by rw [HO.out.size]; kernel_rfl) (by rw [HO.out.size]; rfl) (by rw [Array.all_eq_true_iff_forall_mem]; intro u hu; exact HO.out.one u (by simpa using hu)) ?_
  go_upto_region 2 with fail
  refine at_code1 w.heap.size 33 (fun W => Below w.heap.size w W) (Blk.setRow (heap_alloc_new _ _)) (below_setRow ((Below.refl _ _).alloc (Nat.le_refl _) _) (Nat.le_refl _) _) ?_
  intro W k0 b0
  have K0 := hide k0
  have B0 := hide b0
  have l0 := k0.lt
  clear k0 b0
  apply wp_region_lit
  refine wpList_load_row rfl 33 (.tmp 1) rfl w.heap.size rfl 33 aa (0, 0) _ K0.out Try.underlying33 rfl (by rw [HO.out.size]; kernel_rfl) ?_
  refine wpList_plain rfl (fun K hK => ?_)
  go_simp
  refine (add_eq aa addO X0 0 rfl _ HO.out).mono ?_
  rintro e w1 ⟨cs1, rfl, hx, hb1⟩
  have hx : LineR.at_ w1 (dom (fun _ => False) w.heap.size [w.heap.size, w1.heap.size] w1) cs1.toArray.toList X0 := LineR.keep (D := fun _ => False) Holds.refl (fun _ h _ => False.elim h) (show LineR.at_ w1 (fun _ => False) cs1 X0 from hx)
  generalize cs1.toArray = ca at *
  have hca : ca.size = 10 := LineR.len hx
  have h1c := LineR.one hx
  have HX := hide hx
  have HC := hide hca
  have H1 := hide h1c
  have K1 := hide (K0.out.after hb1)
  have B1 := hide (B0.out.trans (hb1.mono B0.out.size))
  clear hx hca h1c hb1
  refine hK _ _ ?_
  clear hK K
  refine wpList_plain rfl (fun K hK => ?_)
  go_simp
  refine hK _ _ ?_
  clear hK K
  refine wpList_plain rfl (fun K hK => ?_)
  go_simp
  refine hK _ _ ?_
  clear hK K
  refine wpList_plain rfl (fun K hK => ?_)
  go_simp
  refine hK _ _ ?_
  clear hK K
  refine wpList_plain rfl (fun K hK => ?_)
  go_simp
  refine hK _ _ ?_
  clear hK K
  refine wpList_store_row rfl 27 (.tmp 2) (.tmp 25) rfl w1.heap.size ca rfl rfl 27 _ (heap_alloc_new _ _) (by rw [HC.out]; kernel_rfl) (by rw [HC.out]; rfl) (by rw [Array.all_eq_true_iff_forall_mem]; intro u hu; exact H1.out u (by simpa using hu)) ?_
  refine wpList_plain rfl (fun K hK => ?_)
  go_simp
  refine hK _ _ ?_
  clear hK K
  go_upto_region 3 with fail
  refine at_code0 (fun W => Hs w aa [w1.heap.size, w.heap.size] [(w1.heap.size, X0)] W) ?_ ?_
  · exact Hs.store (z := ZL) (Hs.alloc (old := []) (L := [w.heap.size]) ⟨B1.out, K1.out, by simp, by intro g hg; simp at hg; subst hg; exact ⟨K1.out.lt, Nat.le_refl _⟩, by simp⟩ _) (by simp) (by have := K1.out.lt; omega) (by simp) (Blk.new _ _ _) (LineR.keep (Holds.alloc _) (fun b h _ => ⟨by have := h.1; simp; omega, h.2.1, by have := h.2.2; simp at this ⊢; exact ⟨this.2, this.1⟩⟩) HX.out)
  intro W hs
  have HS := hide hs
  clear hs HX HC H1 K1 B1 K0 B0
  go_upto_region 3 with fail
  go_cut [4, 5] (Got w aa [(w1.heap.size, X0)] Xa 0)
  case first =>
    obtain ⟨cs, k, rr, hsz⟩ := HS.out.get (g := w1.heap.size) (M := X0) (by simp)
    have KS := hide k
    have RR := hide rr
    have HZ := hide hsz
    clear k rr hsz
    have s0 : Below W.heap.size W W.drew := (Below.refl _ _).drew
    refine wp_region_fl 6 [(0, 1, []), (1, 0, [(1, 0), (2, 0), (3, 2), (4, 2), (5, 2), (7, 0), (8, 2)]), (2, 0, [(2, 0), (3, 2), (4, 2), (5, 2), (7, 0), (8, 2)]), (3, 2, []), (4, 2, []), (5, 2, []), (6, 4, [(7, 0), (8, 2)])] (fun _ => true) (fun w' => Below W.heap.size W w') (by kernel_rfl) (by kernel_rfl) ?_
    intro ops hops
    have HOPS := hide hops
    clear hops
    refine wpFl_read (o := ?ro1) (v := ?rv1) ?rh1 ?rg1 ?rq1 s0 ?ry1 ?_
    case rh1 => rw [HOPS.out]; simp only [List.getElem?_toArray, List.getElem?_cons_succ, List.getElem?_cons_zero]; exact rfl
    case rg1 => rfl
    case rq1 => exact fun _ _ _ h => h
    case ry1 => intro w' hs; refine exec_load_row (ρ := Act.eval _) 27 (.tmp 2) ?_ _ ?_ 27 cs _ (KS.out.after hs) Try.underlying27 rfl (by rw [HZ.out]; kernel_rfl) <;> rfl
    simp only [Act.put, List.setIfInBounds_toArray, List.set_cons_succ, List.set_cons_zero]
    refine wpFl_fork (o := ?ro2) (oa := ?rp2) ?rh2 ?ri2 (fun K hK => ?_) (fun K hK => ?_)
    case rh2 => rw [HOPS.out]; simp only [List.getElem?_toArray, List.getElem?_cons_succ, List.getElem?_cons_zero]; exact rfl
    case ri2 => rw [HOPS.out]; simp only [List.getElem?_toArray, List.getElem?_cons_succ, List.getElem?_cons_zero]; exact rfl
    · go_simp
      refine (op_any 4 6 1 3 _).mono ?_
      rintro e w2 ⟨oa, rfl, ho, hb⟩
      have HOA := hide ho
      have HB2 := hide (undrew hb)
      clear ho hb
      refine hK _ _ (fun _ _ => HB2.out) ?_
      clear hK K
      refine wpFl_fork (o := ?ro3) (oa := ?rp3) ?rh3 ?ri3 (fun K hK => ?_) (fun K hK => ?_)
      case rh3 => rw [HOPS.out]; simp only [List.getElem?_toArray, List.getElem?_cons_succ, List.getElem?_cons_zero]; exact rfl
      case ri3 => rw [HOPS.out]; simp only [List.getElem?_toArray, List.getElem?_cons_succ, List.getElem?_cons_zero]; exact rfl
      · go_simp
        refine (act_eq _ cs oa X0 (opM 4 6 1 3) Xa 0 rfl _ (LineR.after RR.out HB2.out) HOA.out (by decide) (by decide) rfl rfl).mono ?_
        rintro e w3 ⟨ca3, rfl, hr3, hz3, h13, hb3⟩
        have HR3 := hide (LineR.called hr3 (fun g hg => ((HS.out.after HB2.out).2.2.2.1 g hg).1) (HS.out.after HB2.out).1.size)
        have HS3 := hide ((HS.out.after HB2.out).after hb3)
        have HZ3 := hide hz3
        have H13 := hide h13
        have HB3 := hide (HB2.out.trans (hb3.mono HB2.out.size))
        clear hr3 hz3 h13 hb3
        refine hK _ _ (fun _ _ => HB3.out) ?_
        clear hK K
        refine wpFl_pure (o := ?ro4) (v := ?rv4) ?rh4 ?rg4 ?rq4 ?ry4 ?_
        case rh4 => rw [HOPS.out]; simp only [List.getElem?_toArray, List.getElem?_cons_succ, List.getElem?_cons_zero]; exact rfl
        case rg4 => rfl
        case rq4 => exact fun _ _ _ h => h
        case ry4 => intro w'; go_simp; try with_reducible rfl
        simp only [Act.put, List.setIfInBounds_toArray, List.set_cons_succ, List.set_cons_zero]
        refine wpFl_pure (o := ?ro5) (v := ?rv5) ?rh5 ?rg5 ?rq5 ?ry5 ?_
        case rh5 => rw [HOPS.out]; simp only [List.getElem?_toArray, List.getElem?_cons_succ, List.getElem?_cons_zero]; exact rfl
        case rg5 => rfl
        case rq5 => exact fun _ _ _ h => h
        case ry5 => intro w'; go_simp; try with_reducible rfl
        simp only [Act.put, List.setIfInBounds_toArray, List.set_cons_succ, List.set_cons_zero]
        refine wpFl_pure (o := ?ro6) (v := ?rv6) ?rh6 ?rg6 ?rq6 ?ry6 ?_
        case rh6 => rw [HOPS.out]; simp only [List.getElem?_toArray, List.getElem?_cons_succ, List.getElem?_cons_zero]; exact rfl
        case rg6 => rfl
        case rq6 => exact fun _ _ _ h => h
        case ry6 => intro w'; go_simp; try with_reducible rfl
        simp only [Act.put, List.setIfInBounds_toArray, List.set_cons_succ, List.set_cons_zero]
        refine wpFl_here (oa := ?rp7) ?rh7 (fun K hK => ?_)
        case rh7 => rw [HOPS.out]; simp only [List.getElem?_toArray, List.getElem?_cons_succ, List.getElem?_cons_zero]; exact rfl
        go_simp
        refine hK _ _ (fun _ _ => HB3.out.alloc HB3.out.size _) ?_
        clear hK K
        have HSx := hide (Hs.alloc HS3.out (.cells ZL 27))
        have HRx := hide (LineR.boxed HR3.out ((Below.refl w3.heap.size w3).alloc (Nat.le_refl _) (.cells ZL 27)) (L' := w3.heap.size :: _) (fun k hk => by rcases List.mem_cons.1 hk with rfl | hk; exact .inr (Nat.le_refl _); exact .inl hk))
        have HZx := hide (Blk.new w3 27 ZL)
        have BQ := hide (below_setRow (HB3.out.alloc HB3.out.size (.cells ZL 27)) (HB3.out.size) ca3)
        refine wpSeq_step (o := ?ro8) ?rh8 (fun K hK => ?_)
        case rh8 => rw [HOPS.out]; simp only [List.getElem?_toArray, List.getElem?_cons_succ, List.getElem?_cons_zero]; exact rfl
        refine step_store_row rfl 27 (.tmp 4) (.tmp 31) rfl w3.heap.size ca3 rfl rfl 27 ZL HZx.out (by rw [HZ3.out]; kernel_rfl) (by rw [HZ3.out]; rfl) H13.out ?_
        have HS5 := hide (Hs.store (z := ZL) HSx.out (by simp) (HS3.out).ne (HS3.out).old_lt HZx.out HRx.out)
        refine hK _ _ (fun _ _ => BQ.out) ?_
        clear hK K
        simp only [Act.put, List.setIfInBounds_toArray, List.set_cons_succ, List.set_cons_zero]
        refine wpSeq_pure (o := ?ro9) (v := ?rv9) ?rh9 ?rg9 ?rq9 ?ry9 ?_
        case rh9 => rw [HOPS.out]; simp only [List.getElem?_toArray, List.getElem?_cons_succ, List.getElem?_cons_zero]; exact rfl
        case rg9 => rfl
        case rq9 => exact fun _ _ _ h => h
        case ry9 => intro w'; go_simp; try with_reducible rfl
        simp only [Act.put, List.setIfInBounds_toArray, List.set_cons_succ, List.set_cons_zero]
        refine wpSeq_nil ?_
        go_wp2_with fail
        go_meet
        exact ⟨_, _, rfl, rfl, HS5.out⟩
      · go_simp
        refine hK _ _ (fun _ _ => HB2.out.alloc HB2.out.size _) ?_
        clear hK K
        refine wpSeq_step (o := ?ro10) ?rh10 (fun K hK => ?_)
        case rh10 => rw [HOPS.out]; simp only [List.getElem?_toArray, List.getElem?_cons_succ, List.getElem?_cons_zero]; exact rfl
        go_simp
        refine (act_eq _ cs oa X0 (opM 4 6 1 3) Xa 0 rfl _ (LineR.boxed RR.out (HB2.out.alloc HB2.out.size (.cells ZL 27)) (L' := w2.heap.size :: _) (fun k hk => by rcases List.mem_cons.1 hk with rfl | hk; exact .inr HB2.out.size; exact .inl hk)) HOA.out (by decide) (by decide) rfl rfl).mono ?_
        rintro e w3 ⟨ca3, rfl, hr3, hz3, h13, hb3⟩
        have HR3 := hide (LineR.called hr3 (fun g hg => ((Hs.alloc (HS.out.after HB2.out) (.cells ZL 27)).2.2.2.1 g hg).1) (Hs.alloc (HS.out.after HB2.out) (.cells ZL 27)).1.size)
        have HS3 := hide ((Hs.alloc (HS.out.after HB2.out) (.cells ZL 27)).after hb3)
        have HZ3 := hide hz3
        have H13 := hide h13
        have HB3 := hide ((HB2.out.alloc HB2.out.size (.cells ZL 27)).trans (hb3.mono (HB2.out.alloc HB2.out.size (.cells ZL 27)).size))
        have HZ4 := hide ((Blk.new w2 27 ZL).after hb3)
        clear hr3 hz3 h13 hb3
        refine hK _ _ (fun _ _ => HB3.out) ?_
        clear hK K
        refine wpSeq_pure (o := ?ro11) (v := ?rv11) ?rh11 ?rg11 ?rq11 ?ry11 ?_
        case rh11 => rw [HOPS.out]; simp only [List.getElem?_toArray, List.getElem?_cons_succ, List.getElem?_cons_zero]; exact rfl
        case rg11 => rfl
        case rq11 => exact fun _ _ _ h => h
        case ry11 => intro w'; go_simp; try with_reducible rfl
        simp only [Act.put, List.setIfInBounds_toArray, List.set_cons_succ, List.set_cons_zero]
        refine wpSeq_pure (o := ?ro12) (v := ?rv12) ?rh12 ?rg12 ?rq12 ?ry12 ?_
        case rh12 => rw [HOPS.out]; simp only [List.getElem?_toArray, List.getElem?_cons_succ, List.getElem?_cons_zero]; exact rfl
        case rg12 => rfl
        case rq12 => exact fun _ _ _ h => h
        case ry12 => intro w'; go_simp; try with_reducible rfl
        simp only [Act.put, List.setIfInBounds_toArray, List.set_cons_succ, List.set_cons_zero]
        refine wpSeq_pure (o := ?ro13) (v := ?rv13) ?rh13 ?rg13 ?rq13 ?ry13 ?_
        case rh13 => rw [HOPS.out]; simp only [List.getElem?_toArray, List.getElem?_cons_succ, List.getElem?_cons_zero]; exact rfl
        case rg13 => rfl
        case rq13 => exact fun _ _ _ h => h
        case ry13 => intro w'; go_simp; try with_reducible rfl
        simp only [Act.put, List.setIfInBounds_toArray, List.set_cons_succ, List.set_cons_zero]
        have HSx := hide (HS3.out)
        have HRx := hide (HR3.out)
        have HZx := hide (HZ4.out)
        have BQ := hide (below_setRow (HB3.out) (HB2.out.size) ca3)
        refine wpSeq_step (o := ?ro14) ?rh14 (fun K hK => ?_)
        case rh14 => rw [HOPS.out]; simp only [List.getElem?_toArray, List.getElem?_cons_succ, List.getElem?_cons_zero]; exact rfl
        refine step_store_row rfl 27 (.tmp 4) (.tmp 31) rfl w2.heap.size ca3 rfl rfl 27 ZL HZx.out (by rw [HZ3.out]; kernel_rfl) (by rw [HZ3.out]; rfl) H13.out ?_
        have HS5 := hide (Hs.store (z := ZL) HSx.out (by simp) (HS.out.after HB2.out).ne (HS.out.after HB2.out).old_lt HZx.out HRx.out)
        refine hK _ _ (fun _ _ => BQ.out) ?_
        clear hK K
        simp only [Act.put, List.setIfInBounds_toArray, List.set_cons_succ, List.set_cons_zero]
        refine wpSeq_pure (o := ?ro15) (v := ?rv15) ?rh15 ?rg15 ?rq15 ?ry15 ?_
        case rh15 => rw [HOPS.out]; simp only [List.getElem?_toArray, List.getElem?_cons_succ, List.getElem?_cons_zero]; exact rfl
        case rg15 => rfl
        case rq15 => exact fun _ _ _ h => h
        case ry15 => intro w'; go_simp; try with_reducible rfl
        simp only [Act.put, List.setIfInBounds_toArray, List.set_cons_succ, List.set_cons_zero]
        refine wpSeq_nil ?_
        go_wp2_with fail
        go_meet
        exact ⟨_, _, rfl, rfl, HS5.out⟩
    · go_simp
      refine hK _ _ (fun _ _ => ((Below.refl _ _).alloc (Nat.le_refl _) _).drew) ?_
      clear hK K
      refine wpSeq_step (o := ?ro16) ?rh16 (fun K hK => ?_)
      case rh16 => rw [HOPS.out]; simp only [List.getElem?_toArray, List.getElem?_cons_succ, List.getElem?_cons_zero]; exact rfl
      go_simp
      refine (op_any 4 6 1 3 _).mono ?_
      rintro e w2 ⟨oa, rfl, ho, hb⟩
      have HOA := hide ho
      have HB1 := hide (show Below (W.alloc (.cells ZL 27)).heap.size (W.alloc (.cells ZL 27)) w2 from undrew hb)
      have HB2 := hide (((Below.refl W.heap.size W).alloc (Nat.le_refl _) (.cells ZL 27)).trans (HB1.out.mono (by simp)))
      clear ho hb
      refine hK _ _ (fun _ _ => HB2.out) ?_
      clear hK K
      refine wpSeq_step (o := ?ro17) ?rh17 (fun K hK => ?_)
      case rh17 => rw [HOPS.out]; simp only [List.getElem?_toArray, List.getElem?_cons_succ, List.getElem?_cons_zero]; exact rfl
      go_simp
      refine (act_eq _ cs oa X0 (opM 4 6 1 3) Xa 0 rfl _ (LineR.boxed RR.out HB2.out (L' := W.heap.size :: _) (fun k hk => by rcases List.mem_cons.1 hk with rfl | hk; exact .inr (Nat.le_refl _); exact .inl hk)) HOA.out (by decide) (by decide) rfl rfl).mono ?_
      rintro e w3 ⟨ca3, rfl, hr3, hz3, h13, hb3⟩
      have HR3 := hide (LineR.called hr3 (fun g hg => (((Hs.alloc HS.out (.cells ZL 27)).after HB1.out).2.2.2.1 g hg).1) ((Hs.alloc HS.out (.cells ZL 27)).after HB1.out).1.size)
      have HS3 := hide (((Hs.alloc HS.out (.cells ZL 27)).after HB1.out).after hb3)
      have HZ3 := hide hz3
      have H13 := hide h13
      have HB3 := hide (HB2.out.trans (hb3.mono HB2.out.size))
      have HZ4 := hide (((Blk.new W 27 ZL).after HB1.out).after hb3)
      clear hr3 hz3 h13 hb3
      refine hK _ _ (fun _ _ => HB3.out) ?_
      clear hK K
      refine wpSeq_pure (o := ?ro18) (v := ?rv18) ?rh18 ?rg18 ?rq18 ?ry18 ?_
      case rh18 => rw [HOPS.out]; simp only [List.getElem?_toArray, List.getElem?_cons_succ, List.getElem?_cons_zero]; exact rfl
      case rg18 => rfl
      case rq18 => exact fun _ _ _ h => h
      case ry18 => intro w'; go_simp; try with_reducible rfl
      simp only [Act.put, List.setIfInBounds_toArray, List.set_cons_succ, List.set_cons_zero]
      refine wpSeq_pure (o := ?ro19) (v := ?rv19) ?rh19 ?rg19 ?rq19 ?ry19 ?_
      case rh19 => rw [HOPS.out]; simp only [List.getElem?_toArray, List.getElem?_cons_succ, List.getElem?_cons_zero]; exact rfl
      case rg19 => rfl
      case rq19 => exact fun _ _ _ h => h
      case ry19 => intro w'; go_simp; try with_reducible rfl
      simp only [Act.put, List.setIfInBounds_toArray, List.set_cons_succ, List.set_cons_zero]
      refine wpSeq_pure (o := ?ro20) (v := ?rv20) ?rh20 ?rg20 ?rq20 ?ry20 ?_
      case rh20 => rw [HOPS.out]; simp only [List.getElem?_toArray, List.getElem?_cons_succ, List.getElem?_cons_zero]; exact rfl
      case rg20 => rfl
      case rq20 => exact fun _ _ _ h => h
      case ry20 => intro w'; go_simp; try with_reducible rfl
      simp only [Act.put, List.setIfInBounds_toArray, List.set_cons_succ, List.set_cons_zero]
      have HSx := hide (HS3.out)
      have HRx := hide (HR3.out)
      have HZx := hide (HZ4.out)
      have BQ := hide (below_setRow (HB3.out) (Nat.le_refl _) ca3)
      refine wpSeq_step (o := ?ro21) ?rh21 (fun K hK => ?_)
      case rh21 => rw [HOPS.out]; simp only [List.getElem?_toArray, List.getElem?_cons_succ, List.getElem?_cons_zero]; exact rfl
      refine step_store_row rfl 27 (.tmp 4) (.tmp 31) rfl W.heap.size ca3 rfl rfl 27 ZL HZx.out (by rw [HZ3.out]; kernel_rfl) (by rw [HZ3.out]; rfl) H13.out ?_
      have HS5 := hide (Hs.store (z := ZL) HSx.out (by simp) (HS.out).ne (HS.out).old_lt HZx.out HRx.out)
      refine hK _ _ (fun _ _ => BQ.out) ?_
      clear hK K
      simp only [Act.put, List.setIfInBounds_toArray, List.set_cons_succ, List.set_cons_zero]
      refine wpSeq_pure (o := ?ro22) (v := ?rv22) ?rh22 ?rg22 ?rq22 ?ry22 ?_
      case rh22 => rw [HOPS.out]; simp only [List.getElem?_toArray, List.getElem?_cons_succ, List.getElem?_cons_zero]; exact rfl
      case rg22 => rfl
      case rq22 => exact fun _ _ _ h => h
      case ry22 => intro w'; go_simp; try with_reducible rfl
      simp only [Act.put, List.setIfInBounds_toArray, List.set_cons_succ, List.set_cons_zero]
      refine wpSeq_nil ?_
      go_wp2_with fail
      go_meet
      exact ⟨_, _, rfl, rfl, HS5.out⟩
  obtain ⟨g4, L4, rfl, rfl, hs⟩ := hcut
  clear HS
  have HS := hide hs
  clear hs
  go_upto_region 4 with fail
  go_cut [6, 7] (Got w aa [(g4, Xa), (w1.heap.size, X0)] Xb 0)
  case first =>
    obtain ⟨cs, k, rr, hsz⟩ := HS.out.get (g := g4) (M := Xa) (by simp)
    have KS := hide k
    have RR := hide rr
    have HZ := hide hsz
    clear k rr hsz
    have s0 : Below wc.heap.size wc wc.drew := (Below.refl _ _).drew
    refine wp_region_fl 6 [(0, 1, []), (1, 0, [(1, 0), (2, 0), (3, 2), (4, 2), (5, 2), (7, 0), (8, 2)]), (2, 0, [(2, 0), (3, 2), (4, 2), (5, 2), (7, 0), (8, 2)]), (3, 2, []), (4, 2, []), (5, 2, []), (6, 4, [(7, 0), (8, 2)])] (fun _ => true) (fun w' => Below wc.heap.size wc w') (by kernel_rfl) (by kernel_rfl) ?_
    intro ops hops
    have HOPS := hide hops
    clear hops
    refine wpFl_read (o := ?ro23) (v := ?rv23) ?rh23 ?rg23 ?rq23 s0 ?ry23 ?_
    case rh23 => rw [HOPS.out]; simp only [List.getElem?_toArray, List.getElem?_cons_succ, List.getElem?_cons_zero]; exact rfl
    case rg23 => rfl
    case rq23 => exact fun _ _ _ h => h
    case ry23 => intro w' hs; refine exec_load_row (ρ := Act.eval _) 27 (.tmp 4) ?_ _ ?_ 27 cs _ (KS.out.after hs) Try.underlying27 rfl (by rw [HZ.out]; kernel_rfl) <;> rfl
    simp only [Act.put, List.setIfInBounds_toArray, List.set_cons_succ, List.set_cons_zero]
    refine wpFl_fork (o := ?ro24) (oa := ?rp24) ?rh24 ?ri24 (fun K hK => ?_) (fun K hK => ?_)
    case rh24 => rw [HOPS.out]; simp only [List.getElem?_toArray, List.getElem?_cons_succ, List.getElem?_cons_zero]; exact rfl
    case ri24 => rw [HOPS.out]; simp only [List.getElem?_toArray, List.getElem?_cons_succ, List.getElem?_cons_zero]; exact rfl
    · go_simp
      refine (op_any 7 4 2 0 _).mono ?_
      rintro e w2 ⟨oa, rfl, ho, hb⟩
      have HOA := hide ho
      have HB2 := hide (undrew hb)
      clear ho hb
      refine hK _ _ (fun _ _ => HB2.out) ?_
      clear hK K
      refine wpFl_fork (o := ?ro25) (oa := ?rp25) ?rh25 ?ri25 (fun K hK => ?_) (fun K hK => ?_)
      case rh25 => rw [HOPS.out]; simp only [List.getElem?_toArray, List.getElem?_cons_succ, List.getElem?_cons_zero]; exact rfl
      case ri25 => rw [HOPS.out]; simp only [List.getElem?_toArray, List.getElem?_cons_succ, List.getElem?_cons_zero]; exact rfl
      · go_simp
        refine (act_eq _ cs oa Xa (opM 7 4 2 0) Xb 0 rfl _ (LineR.after RR.out HB2.out) HOA.out (by decide) (by decide) rfl rfl).mono ?_
        rintro e w3 ⟨ca3, rfl, hr3, hz3, h13, hb3⟩
        have HR3 := hide (LineR.called hr3 (fun g hg => ((HS.out.after HB2.out).2.2.2.1 g hg).1) (HS.out.after HB2.out).1.size)
        have HS3 := hide ((HS.out.after HB2.out).after hb3)
        have HZ3 := hide hz3
        have H13 := hide h13
        have HB3 := hide (HB2.out.trans (hb3.mono HB2.out.size))
        clear hr3 hz3 h13 hb3
        refine hK _ _ (fun _ _ => HB3.out) ?_
        clear hK K
        refine wpFl_pure (o := ?ro26) (v := ?rv26) ?rh26 ?rg26 ?rq26 ?ry26 ?_
        case rh26 => rw [HOPS.out]; simp only [List.getElem?_toArray, List.getElem?_cons_succ, List.getElem?_cons_zero]; exact rfl
        case rg26 => rfl
        case rq26 => exact fun _ _ _ h => h
        case ry26 => intro w'; go_simp; try with_reducible rfl
        simp only [Act.put, List.setIfInBounds_toArray, List.set_cons_succ, List.set_cons_zero]
        refine wpFl_pure (o := ?ro27) (v := ?rv27) ?rh27 ?rg27 ?rq27 ?ry27 ?_
        case rh27 => rw [HOPS.out]; simp only [List.getElem?_toArray, List.getElem?_cons_succ, List.getElem?_cons_zero]; exact rfl
        case rg27 => rfl
        case rq27 => exact fun _ _ _ h => h
        case ry27 => intro w'; go_simp; try with_reducible rfl
        simp only [Act.put, List.setIfInBounds_toArray, List.set_cons_succ, List.set_cons_zero]
        refine wpFl_pure (o := ?ro28) (v := ?rv28) ?rh28 ?rg28 ?rq28 ?ry28 ?_
        case rh28 => rw [HOPS.out]; simp only [List.getElem?_toArray, List.getElem?_cons_succ, List.getElem?_cons_zero]; exact rfl
        case rg28 => rfl
        case rq28 => exact fun _ _ _ h => h
        case ry28 => intro w'; go_simp; try with_reducible rfl
        simp only [Act.put, List.setIfInBounds_toArray, List.set_cons_succ, List.set_cons_zero]
        refine wpFl_here (oa := ?rp29) ?rh29 (fun K hK => ?_)
        case rh29 => rw [HOPS.out]; simp only [List.getElem?_toArray, List.getElem?_cons_succ, List.getElem?_cons_zero]; exact rfl
        go_simp
        refine hK _ _ (fun _ _ => HB3.out.alloc HB3.out.size _) ?_
        clear hK K
        have HSx := hide (Hs.alloc HS3.out (.cells ZL 27))
        have HRx := hide (LineR.boxed HR3.out ((Below.refl w3.heap.size w3).alloc (Nat.le_refl _) (.cells ZL 27)) (L' := w3.heap.size :: _) (fun k hk => by rcases List.mem_cons.1 hk with rfl | hk; exact .inr (Nat.le_refl _); exact .inl hk))
        have HZx := hide (Blk.new w3 27 ZL)
        have BQ := hide (below_setRow (HB3.out.alloc HB3.out.size (.cells ZL 27)) (HB3.out.size) ca3)
        refine wpSeq_step (o := ?ro30) ?rh30 (fun K hK => ?_)
        case rh30 => rw [HOPS.out]; simp only [List.getElem?_toArray, List.getElem?_cons_succ, List.getElem?_cons_zero]; exact rfl
        refine step_store_row rfl 27 (.tmp 6) (.tmp 37) rfl w3.heap.size ca3 rfl rfl 27 ZL HZx.out (by rw [HZ3.out]; kernel_rfl) (by rw [HZ3.out]; rfl) H13.out ?_
        have HS5 := hide (Hs.store (z := ZL) HSx.out (by simp) (HS3.out).ne (HS3.out).old_lt HZx.out HRx.out)
        refine hK _ _ (fun _ _ => BQ.out) ?_
        clear hK K
        simp only [Act.put, List.setIfInBounds_toArray, List.set_cons_succ, List.set_cons_zero]
        refine wpSeq_pure (o := ?ro31) (v := ?rv31) ?rh31 ?rg31 ?rq31 ?ry31 ?_
        case rh31 => rw [HOPS.out]; simp only [List.getElem?_toArray, List.getElem?_cons_succ, List.getElem?_cons_zero]; exact rfl
        case rg31 => rfl
        case rq31 => exact fun _ _ _ h => h
        case ry31 => intro w'; go_simp; try with_reducible rfl
        simp only [Act.put, List.setIfInBounds_toArray, List.set_cons_succ, List.set_cons_zero]
        refine wpSeq_nil ?_
        go_wp2_with fail
        go_meet
        exact ⟨_, _, rfl, rfl, HS5.out⟩
      · go_simp
        refine hK _ _ (fun _ _ => HB2.out.alloc HB2.out.size _) ?_
        clear hK K
        refine wpSeq_step (o := ?ro32) ?rh32 (fun K hK => ?_)
        case rh32 => rw [HOPS.out]; simp only [List.getElem?_toArray, List.getElem?_cons_succ, List.getElem?_cons_zero]; exact rfl
        go_simp
        refine (act_eq _ cs oa Xa (opM 7 4 2 0) Xb 0 rfl _ (LineR.boxed RR.out (HB2.out.alloc HB2.out.size (.cells ZL 27)) (L' := w2.heap.size :: _) (fun k hk => by rcases List.mem_cons.1 hk with rfl | hk; exact .inr HB2.out.size; exact .inl hk)) HOA.out (by decide) (by decide) rfl rfl).mono ?_
        rintro e w3 ⟨ca3, rfl, hr3, hz3, h13, hb3⟩
        have HR3 := hide (LineR.called hr3 (fun g hg => ((Hs.alloc (HS.out.after HB2.out) (.cells ZL 27)).2.2.2.1 g hg).1) (Hs.alloc (HS.out.after HB2.out) (.cells ZL 27)).1.size)
        have HS3 := hide ((Hs.alloc (HS.out.after HB2.out) (.cells ZL 27)).after hb3)
        have HZ3 := hide hz3
        have H13 := hide h13
        have HB3 := hide ((HB2.out.alloc HB2.out.size (.cells ZL 27)).trans (hb3.mono (HB2.out.alloc HB2.out.size (.cells ZL 27)).size))
        have HZ4 := hide ((Blk.new w2 27 ZL).after hb3)
        clear hr3 hz3 h13 hb3
        refine hK _ _ (fun _ _ => HB3.out) ?_
        clear hK K
        refine wpSeq_pure (o := ?ro33) (v := ?rv33) ?rh33 ?rg33 ?rq33 ?ry33 ?_
        case rh33 => rw [HOPS.out]; simp only [List.getElem?_toArray, List.getElem?_cons_succ, List.getElem?_cons_zero]; exact rfl
        case rg33 => rfl
        case rq33 => exact fun _ _ _ h => h
        case ry33 => intro w'; go_simp; try with_reducible rfl
        simp only [Act.put, List.setIfInBounds_toArray, List.set_cons_succ, List.set_cons_zero]
        refine wpSeq_pure (o := ?ro34) (v := ?rv34) ?rh34 ?rg34 ?rq34 ?ry34 ?_
        case rh34 => rw [HOPS.out]; simp only [List.getElem?_toArray, List.getElem?_cons_succ, List.getElem?_cons_zero]; exact rfl
        case rg34 => rfl
        case rq34 => exact fun _ _ _ h => h
        case ry34 => intro w'; go_simp; try with_reducible rfl
        simp only [Act.put, List.setIfInBounds_toArray, List.set_cons_succ, List.set_cons_zero]
        refine wpSeq_pure (o := ?ro35) (v := ?rv35) ?rh35 ?rg35 ?rq35 ?ry35 ?_
        case rh35 => rw [HOPS.out]; simp only [List.getElem?_toArray, List.getElem?_cons_succ, List.getElem?_cons_zero]; exact rfl
        case rg35 => rfl
        case rq35 => exact fun _ _ _ h => h
        case ry35 => intro w'; go_simp; try with_reducible rfl
        simp only [Act.put, List.setIfInBounds_toArray, List.set_cons_succ, List.set_cons_zero]
        have HSx := hide (HS3.out)
        have HRx := hide (HR3.out)
        have HZx := hide (HZ4.out)
        have BQ := hide (below_setRow (HB3.out) (HB2.out.size) ca3)
        refine wpSeq_step (o := ?ro36) ?rh36 (fun K hK => ?_)
        case rh36 => rw [HOPS.out]; simp only [List.getElem?_toArray, List.getElem?_cons_succ, List.getElem?_cons_zero]; exact rfl
        refine step_store_row rfl 27 (.tmp 6) (.tmp 37) rfl w2.heap.size ca3 rfl rfl 27 ZL HZx.out (by rw [HZ3.out]; kernel_rfl) (by rw [HZ3.out]; rfl) H13.out ?_
        have HS5 := hide (Hs.store (z := ZL) HSx.out (by simp) (HS.out.after HB2.out).ne (HS.out.after HB2.out).old_lt HZx.out HRx.out)
        refine hK _ _ (fun _ _ => BQ.out) ?_
        clear hK K
        simp only [Act.put, List.setIfInBounds_toArray, List.set_cons_succ, List.set_cons_zero]
        refine wpSeq_pure (o := ?ro37) (v := ?rv37) ?rh37 ?rg37 ?rq37 ?ry37 ?_
        case rh37 => rw [HOPS.out]; simp only [List.getElem?_toArray, List.getElem?_cons_succ, List.getElem?_cons_zero]; exact rfl
        case rg37 => rfl
        case rq37 => exact fun _ _ _ h => h
        case ry37 => intro w'; go_simp; try with_reducible rfl
        simp only [Act.put, List.setIfInBounds_toArray, List.set_cons_succ, List.set_cons_zero]
        refine wpSeq_nil ?_
        go_wp2_with fail
        go_meet
        exact ⟨_, _, rfl, rfl, HS5.out⟩
    · go_simp
      refine hK _ _ (fun _ _ => ((Below.refl _ _).alloc (Nat.le_refl _) _).drew) ?_
      clear hK K
      refine wpSeq_step (o := ?ro38) ?rh38 (fun K hK => ?_)
      case rh38 => rw [HOPS.out]; simp only [List.getElem?_toArray, List.getElem?_cons_succ, List.getElem?_cons_zero]; exact rfl
      go_simp
      refine (op_any 7 4 2 0 _).mono ?_
      rintro e w2 ⟨oa, rfl, ho, hb⟩
      have HOA := hide ho
      have HB1 := hide (show Below (wc.alloc (.cells ZL 27)).heap.size (wc.alloc (.cells ZL 27)) w2 from undrew hb)
      have HB2 := hide (((Below.refl wc.heap.size wc).alloc (Nat.le_refl _) (.cells ZL 27)).trans (HB1.out.mono (by simp)))
      clear ho hb
      refine hK _ _ (fun _ _ => HB2.out) ?_
      clear hK K
      refine wpSeq_step (o := ?ro39) ?rh39 (fun K hK => ?_)
      case rh39 => rw [HOPS.out]; simp only [List.getElem?_toArray, List.getElem?_cons_succ, List.getElem?_cons_zero]; exact rfl
      go_simp
      refine (act_eq _ cs oa Xa (opM 7 4 2 0) Xb 0 rfl _ (LineR.boxed RR.out HB2.out (L' := wc.heap.size :: _) (fun k hk => by rcases List.mem_cons.1 hk with rfl | hk; exact .inr (Nat.le_refl _); exact .inl hk)) HOA.out (by decide) (by decide) rfl rfl).mono ?_
      rintro e w3 ⟨ca3, rfl, hr3, hz3, h13, hb3⟩
      have HR3 := hide (LineR.called hr3 (fun g hg => (((Hs.alloc HS.out (.cells ZL 27)).after HB1.out).2.2.2.1 g hg).1) ((Hs.alloc HS.out (.cells ZL 27)).after HB1.out).1.size)
      have HS3 := hide (((Hs.alloc HS.out (.cells ZL 27)).after HB1.out).after hb3)
      have HZ3 := hide hz3
      have H13 := hide h13
      have HB3 := hide (HB2.out.trans (hb3.mono HB2.out.size))
      have HZ4 := hide (((Blk.new wc 27 ZL).after HB1.out).after hb3)
      clear hr3 hz3 h13 hb3
      refine hK _ _ (fun _ _ => HB3.out) ?_
      clear hK K
      refine wpSeq_pure (o := ?ro40) (v := ?rv40) ?rh40 ?rg40 ?rq40 ?ry40 ?_
      case rh40 => rw [HOPS.out]; simp only [List.getElem?_toArray, List.getElem?_cons_succ, List.getElem?_cons_zero]; exact rfl
      case rg40 => rfl
      case rq40 => exact fun _ _ _ h => h
      case ry40 => intro w'; go_simp; try with_reducible rfl
      simp only [Act.put, List.setIfInBounds_toArray, List.set_cons_succ, List.set_cons_zero]
      refine wpSeq_pure (o := ?ro41) (v := ?rv41) ?rh41 ?rg41 ?rq41 ?ry41 ?_
      case rh41 => rw [HOPS.out]; simp only [List.getElem?_toArray, List.getElem?_cons_succ, List.getElem?_cons_zero]; exact rfl
      case rg41 => rfl
      case rq41 => exact fun _ _ _ h => h
      case ry41 => intro w'; go_simp; try with_reducible rfl
      simp only [Act.put, List.setIfInBounds_toArray, List.set_cons_succ, List.set_cons_zero]
      refine wpSeq_pure (o := ?ro42) (v := ?rv42) ?rh42 ?rg42 ?rq42 ?ry42 ?_
      case rh42 => rw [HOPS.out]; simp only [List.getElem?_toArray, List.getElem?_cons_succ, List.getElem?_cons_zero]; exact rfl
      case rg42 => rfl
      case rq42 => exact fun _ _ _ h => h
      case ry42 => intro w'; go_simp; try with_reducible rfl
      simp only [Act.put, List.setIfInBounds_toArray, List.set_cons_succ, List.set_cons_zero]
      have HSx := hide (HS3.out)
      have HRx := hide (HR3.out)
      have HZx := hide (HZ4.out)
      have BQ := hide (below_setRow (HB3.out) (Nat.le_refl _) ca3)
      refine wpSeq_step (o := ?ro43) ?rh43 (fun K hK => ?_)
      case rh43 => rw [HOPS.out]; simp only [List.getElem?_toArray, List.getElem?_cons_succ, List.getElem?_cons_zero]; exact rfl
      refine step_store_row rfl 27 (.tmp 6) (.tmp 37) rfl wc.heap.size ca3 rfl rfl 27 ZL HZx.out (by rw [HZ3.out]; kernel_rfl) (by rw [HZ3.out]; rfl) H13.out ?_
      have HS5 := hide (Hs.store (z := ZL) HSx.out (by simp) (HS.out).ne (HS.out).old_lt HZx.out HRx.out)
      refine hK _ _ (fun _ _ => BQ.out) ?_
      clear hK K
      simp only [Act.put, List.setIfInBounds_toArray, List.set_cons_succ, List.set_cons_zero]
      refine wpSeq_pure (o := ?ro44) (v := ?rv44) ?rh44 ?rg44 ?rq44 ?ry44 ?_
      case rh44 => rw [HOPS.out]; simp only [List.getElem?_toArray, List.getElem?_cons_succ, List.getElem?_cons_zero]; exact rfl
      case rg44 => rfl
      case rq44 => exact fun _ _ _ h => h
      case ry44 => intro w'; go_simp; try with_reducible rfl
      simp only [Act.put, List.setIfInBounds_toArray, List.set_cons_succ, List.set_cons_zero]
      refine wpSeq_nil ?_
      go_wp2_with fail
      go_meet
      exact ⟨_, _, rfl, rfl, HS5.out⟩
  obtain ⟨g6, L6, rfl, rfl, hs⟩ := hcut
  clear HS
  have HS := hide hs
  clear hs
  go_upto_region 5 with fail
  go_cut [8, 9] (Got w aa [(g6, Xb), (g4, Xa), (w1.heap.size, X0)] Xb 278)
  case first =>
    obtain ⟨cs, k, rr, hsz⟩ := HS.out.get (g := g6) (M := Xb) (by simp)
    have KS := hide k
    have RR := hide rr
    have HZ := hide hsz
    clear k rr hsz
    have s0 : Below wc.heap.size wc wc.drew := (Below.refl _ _).drew
    refine wp_region_fl 6 [(0, 1, []), (1, 0, [(1, 0), (2, 0), (3, 2), (4, 2), (5, 2), (7, 0), (8, 2)]), (2, 0, [(2, 0), (3, 2), (4, 2), (5, 2), (7, 0), (8, 2)]), (3, 2, []), (4, 2, []), (5, 2, []), (6, 4, [(7, 0), (8, 2)])] (fun _ => true) (fun w' => Below wc.heap.size wc w') (by kernel_rfl) (by kernel_rfl) ?_
    intro ops hops
    have HOPS := hide hops
    clear hops
    refine wpFl_read (o := ?ro45) (v := ?rv45) ?rh45 ?rg45 ?rq45 s0 ?ry45 ?_
    case rh45 => rw [HOPS.out]; simp only [List.getElem?_toArray, List.getElem?_cons_succ, List.getElem?_cons_zero]; exact rfl
    case rg45 => rfl
    case rq45 => exact fun _ _ _ h => h
    case ry45 => intro w' hs; refine exec_load_row (ρ := Act.eval _) 27 (.tmp 6) ?_ _ ?_ 27 cs _ (KS.out.after hs) Try.underlying27 rfl (by rw [HZ.out]; kernel_rfl) <;> rfl
    simp only [Act.put, List.setIfInBounds_toArray, List.set_cons_succ, List.set_cons_zero]
    refine wpFl_fork (o := ?ro46) (oa := ?rp46) ?rh46 ?ri46 (fun K hK => ?_) (fun K hK => ?_)
    case rh46 => rw [HOPS.out]; simp only [List.getElem?_toArray, List.getElem?_cons_succ, List.getElem?_cons_zero]; exact rfl
    case ri46 => rw [HOPS.out]; simp only [List.getElem?_toArray, List.getElem?_cons_succ, List.getElem?_cons_zero]; exact rfl
    · go_simp
      refine (op_any 8 6 1 3 _).mono ?_
      rintro e w2 ⟨oa, rfl, ho, hb⟩
      have HOA := hide ho
      have HB2 := hide (undrew hb)
      clear ho hb
      refine hK _ _ (fun _ _ => HB2.out) ?_
      clear hK K
      refine wpFl_fork (o := ?ro47) (oa := ?rp47) ?rh47 ?ri47 (fun K hK => ?_) (fun K hK => ?_)
      case rh47 => rw [HOPS.out]; simp only [List.getElem?_toArray, List.getElem?_cons_succ, List.getElem?_cons_zero]; exact rfl
      case ri47 => rw [HOPS.out]; simp only [List.getElem?_toArray, List.getElem?_cons_succ, List.getElem?_cons_zero]; exact rfl
      · go_simp
        refine (act_eq _ cs oa Xb (opM 8 6 1 3) Xb 278 rfl _ (LineR.after RR.out HB2.out) HOA.out (by decide) (by decide) rfl rfl).mono ?_
        rintro e w3 ⟨ca3, rfl, hr3, hz3, h13, hb3⟩
        have HR3 := hide (LineR.called hr3 (fun g hg => ((HS.out.after HB2.out).2.2.2.1 g hg).1) (HS.out.after HB2.out).1.size)
        have HS3 := hide ((HS.out.after HB2.out).after hb3)
        have HZ3 := hide hz3
        have H13 := hide h13
        have HB3 := hide (HB2.out.trans (hb3.mono HB2.out.size))
        clear hr3 hz3 h13 hb3
        refine hK _ _ (fun _ _ => HB3.out) ?_
        clear hK K
        refine wpFl_pure (o := ?ro48) (v := ?rv48) ?rh48 ?rg48 ?rq48 ?ry48 ?_
        case rh48 => rw [HOPS.out]; simp only [List.getElem?_toArray, List.getElem?_cons_succ, List.getElem?_cons_zero]; exact rfl
        case rg48 => rfl
        case rq48 => exact fun _ _ _ h => h
        case ry48 => intro w'; go_simp; try with_reducible rfl
        simp only [Act.put, List.setIfInBounds_toArray, List.set_cons_succ, List.set_cons_zero]
        refine wpFl_pure (o := ?ro49) (v := ?rv49) ?rh49 ?rg49 ?rq49 ?ry49 ?_
        case rh49 => rw [HOPS.out]; simp only [List.getElem?_toArray, List.getElem?_cons_succ, List.getElem?_cons_zero]; exact rfl
        case rg49 => rfl
        case rq49 => exact fun _ _ _ h => h
        case ry49 => intro w'; go_simp; try with_reducible rfl
        simp only [Act.put, List.setIfInBounds_toArray, List.set_cons_succ, List.set_cons_zero]
        refine wpFl_pure (o := ?ro50) (v := ?rv50) ?rh50 ?rg50 ?rq50 ?ry50 ?_
        case rh50 => rw [HOPS.out]; simp only [List.getElem?_toArray, List.getElem?_cons_succ, List.getElem?_cons_zero]; exact rfl
        case rg50 => rfl
        case rq50 => exact fun _ _ _ h => h
        case ry50 => intro w'; go_simp; try with_reducible rfl
        simp only [Act.put, List.setIfInBounds_toArray, List.set_cons_succ, List.set_cons_zero]
        refine wpFl_here (oa := ?rp51) ?rh51 (fun K hK => ?_)
        case rh51 => rw [HOPS.out]; simp only [List.getElem?_toArray, List.getElem?_cons_succ, List.getElem?_cons_zero]; exact rfl
        go_simp
        refine hK _ _ (fun _ _ => HB3.out.alloc HB3.out.size _) ?_
        clear hK K
        have HSx := hide (Hs.alloc HS3.out (.cells ZL 27))
        have HRx := hide (LineR.boxed HR3.out ((Below.refl w3.heap.size w3).alloc (Nat.le_refl _) (.cells ZL 27)) (L' := w3.heap.size :: _) (fun k hk => by rcases List.mem_cons.1 hk with rfl | hk; exact .inr (Nat.le_refl _); exact .inl hk))
        have HZx := hide (Blk.new w3 27 ZL)
        have BQ := hide (below_setRow (HB3.out.alloc HB3.out.size (.cells ZL 27)) (HB3.out.size) ca3)
        refine wpSeq_step (o := ?ro52) ?rh52 (fun K hK => ?_)
        case rh52 => rw [HOPS.out]; simp only [List.getElem?_toArray, List.getElem?_cons_succ, List.getElem?_cons_zero]; exact rfl
        refine step_store_row rfl 27 (.tmp 8) (.tmp 43) rfl w3.heap.size ca3 rfl rfl 27 ZL HZx.out (by rw [HZ3.out]; kernel_rfl) (by rw [HZ3.out]; rfl) H13.out ?_
        have HS5 := hide (Hs.store (z := ZL) HSx.out (by simp) (HS3.out).ne (HS3.out).old_lt HZx.out HRx.out)
        refine hK _ _ (fun _ _ => BQ.out) ?_
        clear hK K
        simp only [Act.put, List.setIfInBounds_toArray, List.set_cons_succ, List.set_cons_zero]
        refine wpSeq_pure (o := ?ro53) (v := ?rv53) ?rh53 ?rg53 ?rq53 ?ry53 ?_
        case rh53 => rw [HOPS.out]; simp only [List.getElem?_toArray, List.getElem?_cons_succ, List.getElem?_cons_zero]; exact rfl
        case rg53 => rfl
        case rq53 => exact fun _ _ _ h => h
        case ry53 => intro w'; go_simp; try with_reducible rfl
        simp only [Act.put, List.setIfInBounds_toArray, List.set_cons_succ, List.set_cons_zero]
        refine wpSeq_nil ?_
        go_wp2_with fail
        go_meet
        exact ⟨_, _, rfl, rfl, HS5.out⟩
      · go_simp
        refine hK _ _ (fun _ _ => HB2.out.alloc HB2.out.size _) ?_
        clear hK K
        refine wpSeq_step (o := ?ro54) ?rh54 (fun K hK => ?_)
        case rh54 => rw [HOPS.out]; simp only [List.getElem?_toArray, List.getElem?_cons_succ, List.getElem?_cons_zero]; exact rfl
        go_simp
        refine (act_eq _ cs oa Xb (opM 8 6 1 3) Xb 278 rfl _ (LineR.boxed RR.out (HB2.out.alloc HB2.out.size (.cells ZL 27)) (L' := w2.heap.size :: _) (fun k hk => by rcases List.mem_cons.1 hk with rfl | hk; exact .inr HB2.out.size; exact .inl hk)) HOA.out (by decide) (by decide) rfl rfl).mono ?_
        rintro e w3 ⟨ca3, rfl, hr3, hz3, h13, hb3⟩
        have HR3 := hide (LineR.called hr3 (fun g hg => ((Hs.alloc (HS.out.after HB2.out) (.cells ZL 27)).2.2.2.1 g hg).1) (Hs.alloc (HS.out.after HB2.out) (.cells ZL 27)).1.size)
        have HS3 := hide ((Hs.alloc (HS.out.after HB2.out) (.cells ZL 27)).after hb3)
        have HZ3 := hide hz3
        have H13 := hide h13
        have HB3 := hide ((HB2.out.alloc HB2.out.size (.cells ZL 27)).trans (hb3.mono (HB2.out.alloc HB2.out.size (.cells ZL 27)).size))
        have HZ4 := hide ((Blk.new w2 27 ZL).after hb3)
        clear hr3 hz3 h13 hb3
        refine hK _ _ (fun _ _ => HB3.out) ?_
        clear hK K
        refine wpSeq_pure (o := ?ro55) (v := ?rv55) ?rh55 ?rg55 ?rq55 ?ry55 ?_
        case rh55 => rw [HOPS.out]; simp only [List.getElem?_toArray, List.getElem?_cons_succ, List.getElem?_cons_zero]; exact rfl
        case rg55 => rfl
        case rq55 => exact fun _ _ _ h => h
        case ry55 => intro w'; go_simp; try with_reducible rfl
        simp only [Act.put, List.setIfInBounds_toArray, List.set_cons_succ, List.set_cons_zero]
        refine wpSeq_pure (o := ?ro56) (v := ?rv56) ?rh56 ?rg56 ?rq56 ?ry56 ?_
        case rh56 => rw [HOPS.out]; simp only [List.getElem?_toArray, List.getElem?_cons_succ, List.getElem?_cons_zero]; exact rfl
        case rg56 => rfl
        case rq56 => exact fun _ _ _ h => h
        case ry56 => intro w'; go_simp; try with_reducible rfl
        simp only [Act.put, List.setIfInBounds_toArray, List.set_cons_succ, List.set_cons_zero]
        refine wpSeq_pure (o := ?ro57) (v := ?rv57) ?rh57 ?rg57 ?rq57 ?ry57 ?_
        case rh57 => rw [HOPS.out]; simp only [List.getElem?_toArray, List.getElem?_cons_succ, List.getElem?_cons_zero]; exact rfl
        case rg57 => rfl
        case rq57 => exact fun _ _ _ h => h
        case ry57 => intro w'; go_simp; try with_reducible rfl
        simp only [Act.put, List.setIfInBounds_toArray, List.set_cons_succ, List.set_cons_zero]
        have HSx := hide (HS3.out)
        have HRx := hide (HR3.out)
        have HZx := hide (HZ4.out)
        have BQ := hide (below_setRow (HB3.out) (HB2.out.size) ca3)
        refine wpSeq_step (o := ?ro58) ?rh58 (fun K hK => ?_)
        case rh58 => rw [HOPS.out]; simp only [List.getElem?_toArray, List.getElem?_cons_succ, List.getElem?_cons_zero]; exact rfl
        refine step_store_row rfl 27 (.tmp 8) (.tmp 43) rfl w2.heap.size ca3 rfl rfl 27 ZL HZx.out (by rw [HZ3.out]; kernel_rfl) (by rw [HZ3.out]; rfl) H13.out ?_
        have HS5 := hide (Hs.store (z := ZL) HSx.out (by simp) (HS.out.after HB2.out).ne (HS.out.after HB2.out).old_lt HZx.out HRx.out)
        refine hK _ _ (fun _ _ => BQ.out) ?_
        clear hK K
        simp only [Act.put, List.setIfInBounds_toArray, List.set_cons_succ, List.set_cons_zero]
        refine wpSeq_pure (o := ?ro59) (v := ?rv59) ?rh59 ?rg59 ?rq59 ?ry59 ?_
        case rh59 => rw [HOPS.out]; simp only [List.getElem?_toArray, List.getElem?_cons_succ, List.getElem?_cons_zero]; exact rfl
        case rg59 => rfl
        case rq59 => exact fun _ _ _ h => h
        case ry59 => intro w'; go_simp; try with_reducible rfl
        simp only [Act.put, List.setIfInBounds_toArray, List.set_cons_succ, List.set_cons_zero]
        refine wpSeq_nil ?_
        go_wp2_with fail
        go_meet
        exact ⟨_, _, rfl, rfl, HS5.out⟩
    · go_simp
      refine hK _ _ (fun _ _ => ((Below.refl _ _).alloc (Nat.le_refl _) _).drew) ?_
      clear hK K
      refine wpSeq_step (o := ?ro60) ?rh60 (fun K hK => ?_)
      case rh60 => rw [HOPS.out]; simp only [List.getElem?_toArray, List.getElem?_cons_succ, List.getElem?_cons_zero]; exact rfl
      go_simp
      refine (op_any 8 6 1 3 _).mono ?_
      rintro e w2 ⟨oa, rfl, ho, hb⟩
      have HOA := hide ho
      have HB1 := hide (show Below (wc.alloc (.cells ZL 27)).heap.size (wc.alloc (.cells ZL 27)) w2 from undrew hb)
      have HB2 := hide (((Below.refl wc.heap.size wc).alloc (Nat.le_refl _) (.cells ZL 27)).trans (HB1.out.mono (by simp)))
      clear ho hb
      refine hK _ _ (fun _ _ => HB2.out) ?_
      clear hK K
      refine wpSeq_step (o := ?ro61) ?rh61 (fun K hK => ?_)
      case rh61 => rw [HOPS.out]; simp only [List.getElem?_toArray, List.getElem?_cons_succ, List.getElem?_cons_zero]; exact rfl
      go_simp
      refine (act_eq _ cs oa Xb (opM 8 6 1 3) Xb 278 rfl _ (LineR.boxed RR.out HB2.out (L' := wc.heap.size :: _) (fun k hk => by rcases List.mem_cons.1 hk with rfl | hk; exact .inr (Nat.le_refl _); exact .inl hk)) HOA.out (by decide) (by decide) rfl rfl).mono ?_
      rintro e w3 ⟨ca3, rfl, hr3, hz3, h13, hb3⟩
      have HR3 := hide (LineR.called hr3 (fun g hg => (((Hs.alloc HS.out (.cells ZL 27)).after HB1.out).2.2.2.1 g hg).1) ((Hs.alloc HS.out (.cells ZL 27)).after HB1.out).1.size)
      have HS3 := hide (((Hs.alloc HS.out (.cells ZL 27)).after HB1.out).after hb3)
      have HZ3 := hide hz3
      have H13 := hide h13
      have HB3 := hide (HB2.out.trans (hb3.mono HB2.out.size))
      have HZ4 := hide (((Blk.new wc 27 ZL).after HB1.out).after hb3)
      clear hr3 hz3 h13 hb3
      refine hK _ _ (fun _ _ => HB3.out) ?_
      clear hK K
      refine wpSeq_pure (o := ?ro62) (v := ?rv62) ?rh62 ?rg62 ?rq62 ?ry62 ?_
      case rh62 => rw [HOPS.out]; simp only [List.getElem?_toArray, List.getElem?_cons_succ, List.getElem?_cons_zero]; exact rfl
      case rg62 => rfl
      case rq62 => exact fun _ _ _ h => h
      case ry62 => intro w'; go_simp; try with_reducible rfl
      simp only [Act.put, List.setIfInBounds_toArray, List.set_cons_succ, List.set_cons_zero]
      refine wpSeq_pure (o := ?ro63) (v := ?rv63) ?rh63 ?rg63 ?rq63 ?ry63 ?_
      case rh63 => rw [HOPS.out]; simp only [List.getElem?_toArray, List.getElem?_cons_succ, List.getElem?_cons_zero]; exact rfl
      case rg63 => rfl
      case rq63 => exact fun _ _ _ h => h
      case ry63 => intro w'; go_simp; try with_reducible rfl
      simp only [Act.put, List.setIfInBounds_toArray, List.set_cons_succ, List.set_cons_zero]
      refine wpSeq_pure (o := ?ro64) (v := ?rv64) ?rh64 ?rg64 ?rq64 ?ry64 ?_
      case rh64 => rw [HOPS.out]; simp only [List.getElem?_toArray, List.getElem?_cons_succ, List.getElem?_cons_zero]; exact rfl
      case rg64 => rfl
      case rq64 => exact fun _ _ _ h => h
      case ry64 => intro w'; go_simp; try with_reducible rfl
      simp only [Act.put, List.setIfInBounds_toArray, List.set_cons_succ, List.set_cons_zero]
      have HSx := hide (HS3.out)
      have HRx := hide (HR3.out)
      have HZx := hide (HZ4.out)
      have BQ := hide (below_setRow (HB3.out) (Nat.le_refl _) ca3)
      refine wpSeq_step (o := ?ro65) ?rh65 (fun K hK => ?_)
      case rh65 => rw [HOPS.out]; simp only [List.getElem?_toArray, List.getElem?_cons_succ, List.getElem?_cons_zero]; exact rfl
      refine step_store_row rfl 27 (.tmp 8) (.tmp 43) rfl wc.heap.size ca3 rfl rfl 27 ZL HZx.out (by rw [HZ3.out]; kernel_rfl) (by rw [HZ3.out]; rfl) H13.out ?_
      have HS5 := hide (Hs.store (z := ZL) HSx.out (by simp) (HS.out).ne (HS.out).old_lt HZx.out HRx.out)
      refine hK _ _ (fun _ _ => BQ.out) ?_
      clear hK K
      simp only [Act.put, List.setIfInBounds_toArray, List.set_cons_succ, List.set_cons_zero]
      refine wpSeq_pure (o := ?ro66) (v := ?rv66) ?rh66 ?rg66 ?rq66 ?ry66 ?_
      case rh66 => rw [HOPS.out]; simp only [List.getElem?_toArray, List.getElem?_cons_succ, List.getElem?_cons_zero]; exact rfl
      case rg66 => rfl
      case rq66 => exact fun _ _ _ h => h
      case ry66 => intro w'; go_simp; try with_reducible rfl
      simp only [Act.put, List.setIfInBounds_toArray, List.set_cons_succ, List.set_cons_zero]
      refine wpSeq_nil ?_
      go_wp2_with fail
      go_meet
      exact ⟨_, _, rfl, rfl, HS5.out⟩
  obtain ⟨g8, L8, rfl, rfl, hs⟩ := hcut
  clear HS
  have HS := hide hs
  clear hs
  go_upto_region 6 with fail
  go_cut [10, 11] (Got w aa [(g8, Xb), (g6, Xb), (g4, Xa), (w1.heap.size, X0)] Xc 0)
  case first =>
    obtain ⟨cs, k, rr, hsz⟩ := HS.out.get (g := g6) (M := Xb) (by simp)
    have KS := hide k
    have RR := hide rr
    have HZ := hide hsz
    clear k rr hsz
    have s0 : Below wc.heap.size wc wc.drew := (Below.refl _ _).drew
    refine wp_region_fl 6 [(0, 1, []), (1, 0, [(1, 0), (2, 0), (3, 2), (4, 2), (5, 2), (7, 0), (8, 2)]), (2, 0, [(2, 0), (3, 2), (4, 2), (5, 2), (7, 0), (8, 2)]), (3, 2, []), (4, 2, []), (5, 2, []), (6, 4, [(7, 0), (8, 2)])] (fun _ => true) (fun w' => Below wc.heap.size wc w') (by kernel_rfl) (by kernel_rfl) ?_
    intro ops hops
    have HOPS := hide hops
    clear hops
    refine wpFl_read (o := ?ro67) (v := ?rv67) ?rh67 ?rg67 ?rq67 s0 ?ry67 ?_
    case rh67 => rw [HOPS.out]; simp only [List.getElem?_toArray, List.getElem?_cons_succ, List.getElem?_cons_zero]; exact rfl
    case rg67 => rfl
    case rq67 => exact fun _ _ _ h => h
    case ry67 => intro w' hs; refine exec_load_row (ρ := Act.eval _) 27 (.tmp 6) ?_ _ ?_ 27 cs _ (KS.out.after hs) Try.underlying27 rfl (by rw [HZ.out]; kernel_rfl) <;> rfl
    simp only [Act.put, List.setIfInBounds_toArray, List.set_cons_succ, List.set_cons_zero]
    refine wpFl_fork (o := ?ro68) (oa := ?rp68) ?rh68 ?ri68 (fun K hK => ?_) (fun K hK => ?_)
    case rh68 => rw [HOPS.out]; simp only [List.getElem?_toArray, List.getElem?_cons_succ, List.getElem?_cons_zero]; exact rfl
    case ri68 => rw [HOPS.out]; simp only [List.getElem?_toArray, List.getElem?_cons_succ, List.getElem?_cons_zero]; exact rfl
    · go_simp
      refine (op_any 9 6 1 7 _).mono ?_
      rintro e w2 ⟨oa, rfl, ho, hb⟩
      have HOA := hide ho
      have HB2 := hide (undrew hb)
      clear ho hb
      refine hK _ _ (fun _ _ => HB2.out) ?_
      clear hK K
      refine wpFl_fork (o := ?ro69) (oa := ?rp69) ?rh69 ?ri69 (fun K hK => ?_) (fun K hK => ?_)
      case rh69 => rw [HOPS.out]; simp only [List.getElem?_toArray, List.getElem?_cons_succ, List.getElem?_cons_zero]; exact rfl
      case ri69 => rw [HOPS.out]; simp only [List.getElem?_toArray, List.getElem?_cons_succ, List.getElem?_cons_zero]; exact rfl
      · go_simp
        refine (act_eq _ cs oa Xb (opM 9 6 1 7) Xc 0 rfl _ (LineR.after RR.out HB2.out) HOA.out (by decide) (by decide) rfl rfl).mono ?_
        rintro e w3 ⟨ca3, rfl, hr3, hz3, h13, hb3⟩
        have HR3 := hide (LineR.called hr3 (fun g hg => ((HS.out.after HB2.out).2.2.2.1 g hg).1) (HS.out.after HB2.out).1.size)
        have HS3 := hide ((HS.out.after HB2.out).after hb3)
        have HZ3 := hide hz3
        have H13 := hide h13
        have HB3 := hide (HB2.out.trans (hb3.mono HB2.out.size))
        clear hr3 hz3 h13 hb3
        refine hK _ _ (fun _ _ => HB3.out) ?_
        clear hK K
        refine wpFl_pure (o := ?ro70) (v := ?rv70) ?rh70 ?rg70 ?rq70 ?ry70 ?_
        case rh70 => rw [HOPS.out]; simp only [List.getElem?_toArray, List.getElem?_cons_succ, List.getElem?_cons_zero]; exact rfl
        case rg70 => rfl
        case rq70 => exact fun _ _ _ h => h
        case ry70 => intro w'; go_simp; try with_reducible rfl
        simp only [Act.put, List.setIfInBounds_toArray, List.set_cons_succ, List.set_cons_zero]
        refine wpFl_pure (o := ?ro71) (v := ?rv71) ?rh71 ?rg71 ?rq71 ?ry71 ?_
        case rh71 => rw [HOPS.out]; simp only [List.getElem?_toArray, List.getElem?_cons_succ, List.getElem?_cons_zero]; exact rfl
        case rg71 => rfl
        case rq71 => exact fun _ _ _ h => h
        case ry71 => intro w'; go_simp; try with_reducible rfl
        simp only [Act.put, List.setIfInBounds_toArray, List.set_cons_succ, List.set_cons_zero]
        refine wpFl_pure (o := ?ro72) (v := ?rv72) ?rh72 ?rg72 ?rq72 ?ry72 ?_
        case rh72 => rw [HOPS.out]; simp only [List.getElem?_toArray, List.getElem?_cons_succ, List.getElem?_cons_zero]; exact rfl
        case rg72 => rfl
        case rq72 => exact fun _ _ _ h => h
        case ry72 => intro w'; go_simp; try with_reducible rfl
        simp only [Act.put, List.setIfInBounds_toArray, List.set_cons_succ, List.set_cons_zero]
        refine wpFl_here (oa := ?rp73) ?rh73 (fun K hK => ?_)
        case rh73 => rw [HOPS.out]; simp only [List.getElem?_toArray, List.getElem?_cons_succ, List.getElem?_cons_zero]; exact rfl
        go_simp
        refine hK _ _ (fun _ _ => HB3.out.alloc HB3.out.size _) ?_
        clear hK K
        have HSx := hide (Hs.alloc HS3.out (.cells ZL 27))
        have HRx := hide (LineR.boxed HR3.out ((Below.refl w3.heap.size w3).alloc (Nat.le_refl _) (.cells ZL 27)) (L' := w3.heap.size :: _) (fun k hk => by rcases List.mem_cons.1 hk with rfl | hk; exact .inr (Nat.le_refl _); exact .inl hk))
        have HZx := hide (Blk.new w3 27 ZL)
        have BQ := hide (below_setRow (HB3.out.alloc HB3.out.size (.cells ZL 27)) (HB3.out.size) ca3)
        refine wpSeq_step (o := ?ro74) ?rh74 (fun K hK => ?_)
        case rh74 => rw [HOPS.out]; simp only [List.getElem?_toArray, List.getElem?_cons_succ, List.getElem?_cons_zero]; exact rfl
        refine step_store_row rfl 27 (.tmp 10) (.tmp 49) rfl w3.heap.size ca3 rfl rfl 27 ZL HZx.out (by rw [HZ3.out]; kernel_rfl) (by rw [HZ3.out]; rfl) H13.out ?_
        have HS5 := hide (Hs.store (z := ZL) HSx.out (by simp) (HS3.out).ne (HS3.out).old_lt HZx.out HRx.out)
        refine hK _ _ (fun _ _ => BQ.out) ?_
        clear hK K
        simp only [Act.put, List.setIfInBounds_toArray, List.set_cons_succ, List.set_cons_zero]
        refine wpSeq_pure (o := ?ro75) (v := ?rv75) ?rh75 ?rg75 ?rq75 ?ry75 ?_
        case rh75 => rw [HOPS.out]; simp only [List.getElem?_toArray, List.getElem?_cons_succ, List.getElem?_cons_zero]; exact rfl
        case rg75 => rfl
        case rq75 => exact fun _ _ _ h => h
        case ry75 => intro w'; go_simp; try with_reducible rfl
        simp only [Act.put, List.setIfInBounds_toArray, List.set_cons_succ, List.set_cons_zero]
        refine wpSeq_nil ?_
        go_wp2_with fail
        go_meet
        exact ⟨_, _, rfl, rfl, HS5.out⟩
      · go_simp
        refine hK _ _ (fun _ _ => HB2.out.alloc HB2.out.size _) ?_
        clear hK K
        refine wpSeq_step (o := ?ro76) ?rh76 (fun K hK => ?_)
        case rh76 => rw [HOPS.out]; simp only [List.getElem?_toArray, List.getElem?_cons_succ, List.getElem?_cons_zero]; exact rfl
        go_simp
        refine (act_eq _ cs oa Xb (opM 9 6 1 7) Xc 0 rfl _ (LineR.boxed RR.out (HB2.out.alloc HB2.out.size (.cells ZL 27)) (L' := w2.heap.size :: _) (fun k hk => by rcases List.mem_cons.1 hk with rfl | hk; exact .inr HB2.out.size; exact .inl hk)) HOA.out (by decide) (by decide) rfl rfl).mono ?_
        rintro e w3 ⟨ca3, rfl, hr3, hz3, h13, hb3⟩
        have HR3 := hide (LineR.called hr3 (fun g hg => ((Hs.alloc (HS.out.after HB2.out) (.cells ZL 27)).2.2.2.1 g hg).1) (Hs.alloc (HS.out.after HB2.out) (.cells ZL 27)).1.size)
        have HS3 := hide ((Hs.alloc (HS.out.after HB2.out) (.cells ZL 27)).after hb3)
        have HZ3 := hide hz3
        have H13 := hide h13
        have HB3 := hide ((HB2.out.alloc HB2.out.size (.cells ZL 27)).trans (hb3.mono (HB2.out.alloc HB2.out.size (.cells ZL 27)).size))
        have HZ4 := hide ((Blk.new w2 27 ZL).after hb3)
        clear hr3 hz3 h13 hb3
        refine hK _ _ (fun _ _ => HB3.out) ?_
        clear hK K
        refine wpSeq_pure (o := ?ro77) (v := ?rv77) ?rh77 ?rg77 ?rq77 ?ry77 ?_
        case rh77 => rw [HOPS.out]; simp only [List.getElem?_toArray, List.getElem?_cons_succ, List.getElem?_cons_zero]; exact rfl
        case rg77 => rfl
        case rq77 => exact fun _ _ _ h => h
        case ry77 => intro w'; go_simp; try with_reducible rfl
        simp only [Act.put, List.setIfInBounds_toArray, List.set_cons_succ, List.set_cons_zero]
        refine wpSeq_pure (o := ?ro78) (v := ?rv78) ?rh78 ?rg78 ?rq78 ?ry78 ?_
        case rh78 => rw [HOPS.out]; simp only [List.getElem?_toArray, List.getElem?_cons_succ, List.getElem?_cons_zero]; exact rfl
        case rg78 => rfl
        case rq78 => exact fun _ _ _ h => h
        case ry78 => intro w'; go_simp; try with_reducible rfl
        simp only [Act.put, List.setIfInBounds_toArray, List.set_cons_succ, List.set_cons_zero]
        refine wpSeq_pure (o := ?ro79) (v := ?rv79) ?rh79 ?rg79 ?rq79 ?ry79 ?_
        case rh79 => rw [HOPS.out]; simp only [List.getElem?_toArray, List.getElem?_cons_succ, List.getElem?_cons_zero]; exact rfl
        case rg79 => rfl
        case rq79 => exact fun _ _ _ h => h
        case ry79 => intro w'; go_simp; try with_reducible rfl
        simp only [Act.put, List.setIfInBounds_toArray, List.set_cons_succ, List.set_cons_zero]
        have HSx := hide (HS3.out)
        have HRx := hide (HR3.out)
        have HZx := hide (HZ4.out)
        have BQ := hide (below_setRow (HB3.out) (HB2.out.size) ca3)
        refine wpSeq_step (o := ?ro80) ?rh80 (fun K hK => ?_)
        case rh80 => rw [HOPS.out]; simp only [List.getElem?_toArray, List.getElem?_cons_succ, List.getElem?_cons_zero]; exact rfl
        refine step_store_row rfl 27 (.tmp 10) (.tmp 49) rfl w2.heap.size ca3 rfl rfl 27 ZL HZx.out (by rw [HZ3.out]; kernel_rfl) (by rw [HZ3.out]; rfl) H13.out ?_
        have HS5 := hide (Hs.store (z := ZL) HSx.out (by simp) (HS.out.after HB2.out).ne (HS.out.after HB2.out).old_lt HZx.out HRx.out)
        refine hK _ _ (fun _ _ => BQ.out) ?_
        clear hK K
        simp only [Act.put, List.setIfInBounds_toArray, List.set_cons_succ, List.set_cons_zero]
        refine wpSeq_pure (o := ?ro81) (v := ?rv81) ?rh81 ?rg81 ?rq81 ?ry81 ?_
        case rh81 => rw [HOPS.out]; simp only [List.getElem?_toArray, List.getElem?_cons_succ, List.getElem?_cons_zero]; exact rfl
        case rg81 => rfl
        case rq81 => exact fun _ _ _ h => h
        case ry81 => intro w'; go_simp; try with_reducible rfl
        simp only [Act.put, List.setIfInBounds_toArray, List.set_cons_succ, List.set_cons_zero]
        refine wpSeq_nil ?_
        go_wp2_with fail
        go_meet
        exact ⟨_, _, rfl, rfl, HS5.out⟩
    · go_simp
      refine hK _ _ (fun _ _ => ((Below.refl _ _).alloc (Nat.le_refl _) _).drew) ?_
      clear hK K
      refine wpSeq_step (o := ?ro82) ?rh82 (fun K hK => ?_)
      case rh82 => rw [HOPS.out]; simp only [List.getElem?_toArray, List.getElem?_cons_succ, List.getElem?_cons_zero]; exact rfl
      go_simp
      refine (op_any 9 6 1 7 _).mono ?_
      rintro e w2 ⟨oa, rfl, ho, hb⟩
      have HOA := hide ho
      have HB1 := hide (show Below (wc.alloc (.cells ZL 27)).heap.size (wc.alloc (.cells ZL 27)) w2 from undrew hb)
      have HB2 := hide (((Below.refl wc.heap.size wc).alloc (Nat.le_refl _) (.cells ZL 27)).trans (HB1.out.mono (by simp)))
      clear ho hb
      refine hK _ _ (fun _ _ => HB2.out) ?_
      clear hK K
      refine wpSeq_step (o := ?ro83) ?rh83 (fun K hK => ?_)
      case rh83 => rw [HOPS.out]; simp only [List.getElem?_toArray, List.getElem?_cons_succ, List.getElem?_cons_zero]; exact rfl
      go_simp
      refine (act_eq _ cs oa Xb (opM 9 6 1 7) Xc 0 rfl _ (LineR.boxed RR.out HB2.out (L' := wc.heap.size :: _) (fun k hk => by rcases List.mem_cons.1 hk with rfl | hk; exact .inr (Nat.le_refl _); exact .inl hk)) HOA.out (by decide) (by decide) rfl rfl).mono ?_
      rintro e w3 ⟨ca3, rfl, hr3, hz3, h13, hb3⟩
      have HR3 := hide (LineR.called hr3 (fun g hg => (((Hs.alloc HS.out (.cells ZL 27)).after HB1.out).2.2.2.1 g hg).1) ((Hs.alloc HS.out (.cells ZL 27)).after HB1.out).1.size)
      have HS3 := hide (((Hs.alloc HS.out (.cells ZL 27)).after HB1.out).after hb3)
      have HZ3 := hide hz3
      have H13 := hide h13
      have HB3 := hide (HB2.out.trans (hb3.mono HB2.out.size))
      have HZ4 := hide (((Blk.new wc 27 ZL).after HB1.out).after hb3)
      clear hr3 hz3 h13 hb3
      refine hK _ _ (fun _ _ => HB3.out) ?_
      clear hK K
      refine wpSeq_pure (o := ?ro84) (v := ?rv84) ?rh84 ?rg84 ?rq84 ?ry84 ?_
      case rh84 => rw [HOPS.out]; simp only [List.getElem?_toArray, List.getElem?_cons_succ, List.getElem?_cons_zero]; exact rfl
      case rg84 => rfl
      case rq84 => exact fun _ _ _ h => h
      case ry84 => intro w'; go_simp; try with_reducible rfl
      simp only [Act.put, List.setIfInBounds_toArray, List.set_cons_succ, List.set_cons_zero]
      refine wpSeq_pure (o := ?ro85) (v := ?rv85) ?rh85 ?rg85 ?rq85 ?ry85 ?_
      case rh85 => rw [HOPS.out]; simp only [List.getElem?_toArray, List.getElem?_cons_succ, List.getElem?_cons_zero]; exact rfl
      case rg85 => rfl
      case rq85 => exact fun _ _ _ h => h
      case ry85 => intro w'; go_simp; try with_reducible rfl
      simp only [Act.put, List.setIfInBounds_toArray, List.set_cons_succ, List.set_cons_zero]
      refine wpSeq_pure (o := ?ro86) (v := ?rv86) ?rh86 ?rg86 ?rq86 ?ry86 ?_
      case rh86 => rw [HOPS.out]; simp only [List.getElem?_toArray, List.getElem?_cons_succ, List.getElem?_cons_zero]; exact rfl
      case rg86 => rfl
      case rq86 => exact fun _ _ _ h => h
      case ry86 => intro w'; go_simp; try with_reducible rfl
      simp only [Act.put, List.setIfInBounds_toArray, List.set_cons_succ, List.set_cons_zero]
      have HSx := hide (HS3.out)
      have HRx := hide (HR3.out)
      have HZx := hide (HZ4.out)
      have BQ := hide (below_setRow (HB3.out) (Nat.le_refl _) ca3)
      refine wpSeq_step (o := ?ro87) ?rh87 (fun K hK => ?_)
      case rh87 => rw [HOPS.out]; simp only [List.getElem?_toArray, List.getElem?_cons_succ, List.getElem?_cons_zero]; exact rfl
      refine step_store_row rfl 27 (.tmp 10) (.tmp 49) rfl wc.heap.size ca3 rfl rfl 27 ZL HZx.out (by rw [HZ3.out]; kernel_rfl) (by rw [HZ3.out]; rfl) H13.out ?_
      have HS5 := hide (Hs.store (z := ZL) HSx.out (by simp) (HS.out).ne (HS.out).old_lt HZx.out HRx.out)
      refine hK _ _ (fun _ _ => BQ.out) ?_
      clear hK K
      simp only [Act.put, List.setIfInBounds_toArray, List.set_cons_succ, List.set_cons_zero]
      refine wpSeq_pure (o := ?ro88) (v := ?rv88) ?rh88 ?rg88 ?rq88 ?ry88 ?_
      case rh88 => rw [HOPS.out]; simp only [List.getElem?_toArray, List.getElem?_cons_succ, List.getElem?_cons_zero]; exact rfl
      case rg88 => rfl
      case rq88 => exact fun _ _ _ h => h
      case ry88 => intro w'; go_simp; try with_reducible rfl
      simp only [Act.put, List.setIfInBounds_toArray, List.set_cons_succ, List.set_cons_zero]
      refine wpSeq_nil ?_
      go_wp2_with fail
      go_meet
      exact ⟨_, _, rfl, rfl, HS5.out⟩
  obtain ⟨g10, L10, rfl, rfl, hs⟩ := hcut
  clear HS
  have HS := hide hs
  clear hs
  go_upto_region 7 with fail
  go_cut [12, 13] (Got w aa [(g10, Xc), (g8, Xb), (g6, Xb), (g4, Xa), (w1.heap.size, X0)] Xd 0)
  case first =>
    obtain ⟨cs, k, rr, hsz⟩ := HS.out.get (g := g10) (M := Xc) (by simp)
    have KS := hide k
    have RR := hide rr
    have HZ := hide hsz
    clear k rr hsz
    have s0 : Below wc.heap.size wc wc.drew := (Below.refl _ _).drew
    refine wp_region_fl 6 [(0, 1, []), (1, 0, [(1, 0), (2, 0), (3, 2), (4, 2), (5, 2), (7, 0), (8, 2)]), (2, 0, [(2, 0), (3, 2), (4, 2), (5, 2), (7, 0), (8, 2)]), (3, 2, []), (4, 2, []), (5, 2, []), (6, 4, [(7, 0), (8, 2)])] (fun _ => true) (fun w' => Below wc.heap.size wc w') (by kernel_rfl) (by kernel_rfl) ?_
    intro ops hops
    have HOPS := hide hops
    clear hops
    refine wpFl_read (o := ?ro89) (v := ?rv89) ?rh89 ?rg89 ?rq89 s0 ?ry89 ?_
    case rh89 => rw [HOPS.out]; simp only [List.getElem?_toArray, List.getElem?_cons_succ, List.getElem?_cons_zero]; exact rfl
    case rg89 => rfl
    case rq89 => exact fun _ _ _ h => h
    case ry89 => intro w' hs; refine exec_load_row (ρ := Act.eval _) 27 (.tmp 10) ?_ _ ?_ 27 cs _ (KS.out.after hs) Try.underlying27 rfl (by rw [HZ.out]; kernel_rfl) <;> rfl
    simp only [Act.put, List.setIfInBounds_toArray, List.set_cons_succ, List.set_cons_zero]
    refine wpFl_fork (o := ?ro90) (oa := ?rp90) ?rh90 ?ri90 (fun K hK => ?_) (fun K hK => ?_)
    case rh90 => rw [HOPS.out]; simp only [List.getElem?_toArray, List.getElem?_cons_succ, List.getElem?_cons_zero]; exact rfl
    case ri90 => rw [HOPS.out]; simp only [List.getElem?_toArray, List.getElem?_cons_succ, List.getElem?_cons_zero]; exact rfl
    · go_simp
      refine (op_any 10 7 3 7 _).mono ?_
      rintro e w2 ⟨oa, rfl, ho, hb⟩
      have HOA := hide ho
      have HB2 := hide (undrew hb)
      clear ho hb
      refine hK _ _ (fun _ _ => HB2.out) ?_
      clear hK K
      refine wpFl_fork (o := ?ro91) (oa := ?rp91) ?rh91 ?ri91 (fun K hK => ?_) (fun K hK => ?_)
      case rh91 => rw [HOPS.out]; simp only [List.getElem?_toArray, List.getElem?_cons_succ, List.getElem?_cons_zero]; exact rfl
      case ri91 => rw [HOPS.out]; simp only [List.getElem?_toArray, List.getElem?_cons_succ, List.getElem?_cons_zero]; exact rfl
      · go_simp
        refine (act_eq _ cs oa Xc (opM 10 7 3 7) Xd 0 rfl _ (LineR.after RR.out HB2.out) HOA.out (by decide) (by decide) rfl rfl).mono ?_
        rintro e w3 ⟨ca3, rfl, hr3, hz3, h13, hb3⟩
        have HR3 := hide (LineR.called hr3 (fun g hg => ((HS.out.after HB2.out).2.2.2.1 g hg).1) (HS.out.after HB2.out).1.size)
        have HS3 := hide ((HS.out.after HB2.out).after hb3)
        have HZ3 := hide hz3
        have H13 := hide h13
        have HB3 := hide (HB2.out.trans (hb3.mono HB2.out.size))
        clear hr3 hz3 h13 hb3
        refine hK _ _ (fun _ _ => HB3.out) ?_
        clear hK K
        refine wpFl_pure (o := ?ro92) (v := ?rv92) ?rh92 ?rg92 ?rq92 ?ry92 ?_
        case rh92 => rw [HOPS.out]; simp only [List.getElem?_toArray, List.getElem?_cons_succ, List.getElem?_cons_zero]; exact rfl
        case rg92 => rfl
        case rq92 => exact fun _ _ _ h => h
        case ry92 => intro w'; go_simp; try with_reducible rfl
        simp only [Act.put, List.setIfInBounds_toArray, List.set_cons_succ, List.set_cons_zero]
        refine wpFl_pure (o := ?ro93) (v := ?rv93) ?rh93 ?rg93 ?rq93 ?ry93 ?_
        case rh93 => rw [HOPS.out]; simp only [List.getElem?_toArray, List.getElem?_cons_succ, List.getElem?_cons_zero]; exact rfl
        case rg93 => rfl
        case rq93 => exact fun _ _ _ h => h
        case ry93 => intro w'; go_simp; try with_reducible rfl
        simp only [Act.put, List.setIfInBounds_toArray, List.set_cons_succ, List.set_cons_zero]
        refine wpFl_pure (o := ?ro94) (v := ?rv94) ?rh94 ?rg94 ?rq94 ?ry94 ?_
        case rh94 => rw [HOPS.out]; simp only [List.getElem?_toArray, List.getElem?_cons_succ, List.getElem?_cons_zero]; exact rfl
        case rg94 => rfl
        case rq94 => exact fun _ _ _ h => h
        case ry94 => intro w'; go_simp; try with_reducible rfl
        simp only [Act.put, List.setIfInBounds_toArray, List.set_cons_succ, List.set_cons_zero]
        refine wpFl_here (oa := ?rp95) ?rh95 (fun K hK => ?_)
        case rh95 => rw [HOPS.out]; simp only [List.getElem?_toArray, List.getElem?_cons_succ, List.getElem?_cons_zero]; exact rfl
        go_simp
        refine hK _ _ (fun _ _ => HB3.out.alloc HB3.out.size _) ?_
        clear hK K
        have HSx := hide (Hs.alloc HS3.out (.cells ZL 27))
        have HRx := hide (LineR.boxed HR3.out ((Below.refl w3.heap.size w3).alloc (Nat.le_refl _) (.cells ZL 27)) (L' := w3.heap.size :: _) (fun k hk => by rcases List.mem_cons.1 hk with rfl | hk; exact .inr (Nat.le_refl _); exact .inl hk))
        have HZx := hide (Blk.new w3 27 ZL)
        have BQ := hide (below_setRow (HB3.out.alloc HB3.out.size (.cells ZL 27)) (HB3.out.size) ca3)
        refine wpSeq_step (o := ?ro96) ?rh96 (fun K hK => ?_)
        case rh96 => rw [HOPS.out]; simp only [List.getElem?_toArray, List.getElem?_cons_succ, List.getElem?_cons_zero]; exact rfl
        refine step_store_row rfl 27 (.tmp 12) (.tmp 55) rfl w3.heap.size ca3 rfl rfl 27 ZL HZx.out (by rw [HZ3.out]; kernel_rfl) (by rw [HZ3.out]; rfl) H13.out ?_
        have HS5 := hide (Hs.store (z := ZL) HSx.out (by simp) (HS3.out).ne (HS3.out).old_lt HZx.out HRx.out)
        refine hK _ _ (fun _ _ => BQ.out) ?_
        clear hK K
        simp only [Act.put, List.setIfInBounds_toArray, List.set_cons_succ, List.set_cons_zero]
        refine wpSeq_pure (o := ?ro97) (v := ?rv97) ?rh97 ?rg97 ?rq97 ?ry97 ?_
        case rh97 => rw [HOPS.out]; simp only [List.getElem?_toArray, List.getElem?_cons_succ, List.getElem?_cons_zero]; exact rfl
        case rg97 => rfl
        case rq97 => exact fun _ _ _ h => h
        case ry97 => intro w'; go_simp; try with_reducible rfl
        simp only [Act.put, List.setIfInBounds_toArray, List.set_cons_succ, List.set_cons_zero]
        refine wpSeq_nil ?_
        go_wp2_with fail
        go_meet
        exact ⟨_, _, rfl, rfl, HS5.out⟩
      · go_simp
        refine hK _ _ (fun _ _ => HB2.out.alloc HB2.out.size _) ?_
        clear hK K
        refine wpSeq_step (o := ?ro98) ?rh98 (fun K hK => ?_)
        case rh98 => rw [HOPS.out]; simp only [List.getElem?_toArray, List.getElem?_cons_succ, List.getElem?_cons_zero]; exact rfl
        go_simp
        refine (act_eq _ cs oa Xc (opM 10 7 3 7) Xd 0 rfl _ (LineR.boxed RR.out (HB2.out.alloc HB2.out.size (.cells ZL 27)) (L' := w2.heap.size :: _) (fun k hk => by rcases List.mem_cons.1 hk with rfl | hk; exact .inr HB2.out.size; exact .inl hk)) HOA.out (by decide) (by decide) rfl rfl).mono ?_
        rintro e w3 ⟨ca3, rfl, hr3, hz3, h13, hb3⟩
        have HR3 := hide (LineR.called hr3 (fun g hg => ((Hs.alloc (HS.out.after HB2.out) (.cells ZL 27)).2.2.2.1 g hg).1) (Hs.alloc (HS.out.after HB2.out) (.cells ZL 27)).1.size)
        have HS3 := hide ((Hs.alloc (HS.out.after HB2.out) (.cells ZL 27)).after hb3)
        have HZ3 := hide hz3
        have H13 := hide h13
        have HB3 := hide ((HB2.out.alloc HB2.out.size (.cells ZL 27)).trans (hb3.mono (HB2.out.alloc HB2.out.size (.cells ZL 27)).size))
        have HZ4 := hide ((Blk.new w2 27 ZL).after hb3)
        clear hr3 hz3 h13 hb3
        refine hK _ _ (fun _ _ => HB3.out) ?_
        clear hK K
        refine wpSeq_pure (o := ?ro99) (v := ?rv99) ?rh99 ?rg99 ?rq99 ?ry99 ?_
        case rh99 => rw [HOPS.out]; simp only [List.getElem?_toArray, List.getElem?_cons_succ, List.getElem?_cons_zero]; exact rfl
        case rg99 => rfl
        case rq99 => exact fun _ _ _ h => h
        case ry99 => intro w'; go_simp; try with_reducible rfl
        simp only [Act.put, List.setIfInBounds_toArray, List.set_cons_succ, List.set_cons_zero]
        refine wpSeq_pure (o := ?ro100) (v := ?rv100) ?rh100 ?rg100 ?rq100 ?ry100 ?_
        case rh100 => rw [HOPS.out]; simp only [List.getElem?_toArray, List.getElem?_cons_succ, List.getElem?_cons_zero]; exact rfl
        case rg100 => rfl
        case rq100 => exact fun _ _ _ h => h
        case ry100 => intro w'; go_simp; try with_reducible rfl
        simp only [Act.put, List.setIfInBounds_toArray, List.set_cons_succ, List.set_cons_zero]
        refine wpSeq_pure (o := ?ro101) (v := ?rv101) ?rh101 ?rg101 ?rq101 ?ry101 ?_
        case rh101 => rw [HOPS.out]; simp only [List.getElem?_toArray, List.getElem?_cons_succ, List.getElem?_cons_zero]; exact rfl
        case rg101 => rfl
        case rq101 => exact fun _ _ _ h => h
        case ry101 => intro w'; go_simp; try with_reducible rfl
        simp only [Act.put, List.setIfInBounds_toArray, List.set_cons_succ, List.set_cons_zero]
        have HSx := hide (HS3.out)
        have HRx := hide (HR3.out)
        have HZx := hide (HZ4.out)
        have BQ := hide (below_setRow (HB3.out) (HB2.out.size) ca3)
        refine wpSeq_step (o := ?ro102) ?rh102 (fun K hK => ?_)
        case rh102 => rw [HOPS.out]; simp only [List.getElem?_toArray, List.getElem?_cons_succ, List.getElem?_cons_zero]; exact rfl
        refine step_store_row rfl 27 (.tmp 12) (.tmp 55) rfl w2.heap.size ca3 rfl rfl 27 ZL HZx.out (by rw [HZ3.out]; kernel_rfl) (by rw [HZ3.out]; rfl) H13.out ?_
        have HS5 := hide (Hs.store (z := ZL) HSx.out (by simp) (HS.out.after HB2.out).ne (HS.out.after HB2.out).old_lt HZx.out HRx.out)
        refine hK _ _ (fun _ _ => BQ.out) ?_
        clear hK K
        simp only [Act.put, List.setIfInBounds_toArray, List.set_cons_succ, List.set_cons_zero]
        refine wpSeq_pure (o := ?ro103) (v := ?rv103) ?rh103 ?rg103 ?rq103 ?ry103 ?_
        case rh103 => rw [HOPS.out]; simp only [List.getElem?_toArray, List.getElem?_cons_succ, List.getElem?_cons_zero]; exact rfl
        case rg103 => rfl
        case rq103 => exact fun _ _ _ h => h
        case ry103 => intro w'; go_simp; try with_reducible rfl
        simp only [Act.put, List.setIfInBounds_toArray, List.set_cons_succ, List.set_cons_zero]
        refine wpSeq_nil ?_
        go_wp2_with fail
        go_meet
        exact ⟨_, _, rfl, rfl, HS5.out⟩
    · go_simp
      refine hK _ _ (fun _ _ => ((Below.refl _ _).alloc (Nat.le_refl _) _).drew) ?_
      clear hK K
      refine wpSeq_step (o := ?ro104) ?rh104 (fun K hK => ?_)
      case rh104 => rw [HOPS.out]; simp only [List.getElem?_toArray, List.getElem?_cons_succ, List.getElem?_cons_zero]; exact rfl
      go_simp
      refine (op_any 10 7 3 7 _).mono ?_
      rintro e w2 ⟨oa, rfl, ho, hb⟩
      have HOA := hide ho
      have HB1 := hide (show Below (wc.alloc (.cells ZL 27)).heap.size (wc.alloc (.cells ZL 27)) w2 from undrew hb)
      have HB2 := hide (((Below.refl wc.heap.size wc).alloc (Nat.le_refl _) (.cells ZL 27)).trans (HB1.out.mono (by simp)))
      clear ho hb
      refine hK _ _ (fun _ _ => HB2.out) ?_
      clear hK K
      refine wpSeq_step (o := ?ro105) ?rh105 (fun K hK => ?_)
      case rh105 => rw [HOPS.out]; simp only [List.getElem?_toArray, List.getElem?_cons_succ, List.getElem?_cons_zero]; exact rfl
      go_simp
      refine (act_eq _ cs oa Xc (opM 10 7 3 7) Xd 0 rfl _ (LineR.boxed RR.out HB2.out (L' := wc.heap.size :: _) (fun k hk => by rcases List.mem_cons.1 hk with rfl | hk; exact .inr (Nat.le_refl _); exact .inl hk)) HOA.out (by decide) (by decide) rfl rfl).mono ?_
      rintro e w3 ⟨ca3, rfl, hr3, hz3, h13, hb3⟩
      have HR3 := hide (LineR.called hr3 (fun g hg => (((Hs.alloc HS.out (.cells ZL 27)).after HB1.out).2.2.2.1 g hg).1) ((Hs.alloc HS.out (.cells ZL 27)).after HB1.out).1.size)
      have HS3 := hide (((Hs.alloc HS.out (.cells ZL 27)).after HB1.out).after hb3)
      have HZ3 := hide hz3
      have H13 := hide h13
      have HB3 := hide (HB2.out.trans (hb3.mono HB2.out.size))
      have HZ4 := hide (((Blk.new wc 27 ZL).after HB1.out).after hb3)
      clear hr3 hz3 h13 hb3
      refine hK _ _ (fun _ _ => HB3.out) ?_
      clear hK K
      refine wpSeq_pure (o := ?ro106) (v := ?rv106) ?rh106 ?rg106 ?rq106 ?ry106 ?_
      case rh106 => rw [HOPS.out]; simp only [List.getElem?_toArray, List.getElem?_cons_succ, List.getElem?_cons_zero]; exact rfl
      case rg106 => rfl
      case rq106 => exact fun _ _ _ h => h
      case ry106 => intro w'; go_simp; try with_reducible rfl
      simp only [Act.put, List.setIfInBounds_toArray, List.set_cons_succ, List.set_cons_zero]
      refine wpSeq_pure (o := ?ro107) (v := ?rv107) ?rh107 ?rg107 ?rq107 ?ry107 ?_
      case rh107 => rw [HOPS.out]; simp only [List.getElem?_toArray, List.getElem?_cons_succ, List.getElem?_cons_zero]; exact rfl
      case rg107 => rfl
      case rq107 => exact fun _ _ _ h => h
      case ry107 => intro w'; go_simp; try with_reducible rfl
      simp only [Act.put, List.setIfInBounds_toArray, List.set_cons_succ, List.set_cons_zero]
      refine wpSeq_pure (o := ?ro108) (v := ?rv108) ?rh108 ?rg108 ?rq108 ?ry108 ?_
      case rh108 => rw [HOPS.out]; simp only [List.getElem?_toArray, List.getElem?_cons_succ, List.getElem?_cons_zero]; exact rfl
      case rg108 => rfl
      case rq108 => exact fun _ _ _ h => h
      case ry108 => intro w'; go_simp; try with_reducible rfl
      simp only [Act.put, List.setIfInBounds_toArray, List.set_cons_succ, List.set_cons_zero]
      have HSx := hide (HS3.out)
      have HRx := hide (HR3.out)
      have HZx := hide (HZ4.out)
      have BQ := hide (below_setRow (HB3.out) (Nat.le_refl _) ca3)
      refine wpSeq_step (o := ?ro109) ?rh109 (fun K hK => ?_)
      case rh109 => rw [HOPS.out]; simp only [List.getElem?_toArray, List.getElem?_cons_succ, List.getElem?_cons_zero]; exact rfl
      refine step_store_row rfl 27 (.tmp 12) (.tmp 55) rfl wc.heap.size ca3 rfl rfl 27 ZL HZx.out (by rw [HZ3.out]; kernel_rfl) (by rw [HZ3.out]; rfl) H13.out ?_
      have HS5 := hide (Hs.store (z := ZL) HSx.out (by simp) (HS.out).ne (HS.out).old_lt HZx.out HRx.out)
      refine hK _ _ (fun _ _ => BQ.out) ?_
      clear hK K
      simp only [Act.put, List.setIfInBounds_toArray, List.set_cons_succ, List.set_cons_zero]
      refine wpSeq_pure (o := ?ro110) (v := ?rv110) ?rh110 ?rg110 ?rq110 ?ry110 ?_
      case rh110 => rw [HOPS.out]; simp only [List.getElem?_toArray, List.getElem?_cons_succ, List.getElem?_cons_zero]; exact rfl
      case rg110 => rfl
      case rq110 => exact fun _ _ _ h => h
      case ry110 => intro w'; go_simp; try with_reducible rfl
      simp only [Act.put, List.setIfInBounds_toArray, List.set_cons_succ, List.set_cons_zero]
      refine wpSeq_nil ?_
      go_wp2_with fail
      go_meet
      exact ⟨_, _, rfl, rfl, HS5.out⟩
  obtain ⟨g12, L12, rfl, rfl, hs⟩ := hcut
  clear HS
  have HS := hide hs
  clear hs
  go_upto_region 8 with fail
  go_cut [14, 15] (Got w aa [(g12, Xd), (g10, Xc), (g8, Xb), (g6, Xb), (g4, Xa), (w1.heap.size, X0)] Xr 0)
  case first =>
    obtain ⟨cs, k, rr, hsz⟩ := HS.out.get (g := w1.heap.size) (M := X0) (by simp)
    have KS := hide k
    have RR := hide rr
    have HZ := hide hsz
    clear k rr hsz
    have s0 : Below wc.heap.size wc wc.drew := (Below.refl _ _).drew
    refine wp_region_fl 6 [(0, 1, []), (1, 0, [(1, 0), (2, 0), (3, 2), (4, 2), (5, 2), (7, 0), (8, 2)]), (2, 0, [(2, 0), (3, 2), (4, 2), (5, 2), (7, 0), (8, 2)]), (3, 2, []), (4, 2, []), (5, 2, []), (6, 4, [(7, 0), (8, 2)])] (fun _ => true) (fun w' => Below wc.heap.size wc w') (by kernel_rfl) (by kernel_rfl) ?_
    intro ops hops
    have HOPS := hide hops
    clear hops
    refine wpFl_read (o := ?ro111) (v := ?rv111) ?rh111 ?rg111 ?rq111 s0 ?ry111 ?_
    case rh111 => rw [HOPS.out]; simp only [List.getElem?_toArray, List.getElem?_cons_succ, List.getElem?_cons_zero]; exact rfl
    case rg111 => rfl
    case rq111 => exact fun _ _ _ h => h
    case ry111 => intro w' hs; refine exec_load_row (ρ := Act.eval _) 27 (.tmp 2) ?_ _ ?_ 27 cs _ (KS.out.after hs) Try.underlying27 rfl (by rw [HZ.out]; kernel_rfl) <;> rfl
    simp only [Act.put, List.setIfInBounds_toArray, List.set_cons_succ, List.set_cons_zero]
    refine wpFl_fork (o := ?ro112) (oa := ?rp112) ?rh112 ?ri112 (fun K hK => ?_) (fun K hK => ?_)
    case rh112 => rw [HOPS.out]; simp only [List.getElem?_toArray, List.getElem?_cons_succ, List.getElem?_cons_zero]; exact rfl
    case ri112 => rw [HOPS.out]; simp only [List.getElem?_toArray, List.getElem?_cons_succ, List.getElem?_cons_zero]; exact rfl
    · go_simp
      refine (op_any 4 5 2 0 _).mono ?_
      rintro e w2 ⟨oa, rfl, ho, hb⟩
      have HOA := hide ho
      have HB2 := hide (undrew hb)
      clear ho hb
      refine hK _ _ (fun _ _ => HB2.out) ?_
      clear hK K
      refine wpFl_fork (o := ?ro113) (oa := ?rp113) ?rh113 ?ri113 (fun K hK => ?_) (fun K hK => ?_)
      case rh113 => rw [HOPS.out]; simp only [List.getElem?_toArray, List.getElem?_cons_succ, List.getElem?_cons_zero]; exact rfl
      case ri113 => rw [HOPS.out]; simp only [List.getElem?_toArray, List.getElem?_cons_succ, List.getElem?_cons_zero]; exact rfl
      · go_simp
        refine (act_eq _ cs oa X0 (opM 4 5 2 0) Xr 0 rfl _ (LineR.after RR.out HB2.out) HOA.out (by decide) (by decide) rfl rfl).mono ?_
        rintro e w3 ⟨ca3, rfl, hr3, hz3, h13, hb3⟩
        have HR3 := hide (LineR.called hr3 (fun g hg => ((HS.out.after HB2.out).2.2.2.1 g hg).1) (HS.out.after HB2.out).1.size)
        have HS3 := hide ((HS.out.after HB2.out).after hb3)
        have HZ3 := hide hz3
        have H13 := hide h13
        have HB3 := hide (HB2.out.trans (hb3.mono HB2.out.size))
        clear hr3 hz3 h13 hb3
        refine hK _ _ (fun _ _ => HB3.out) ?_
        clear hK K
        refine wpFl_pure (o := ?ro114) (v := ?rv114) ?rh114 ?rg114 ?rq114 ?ry114 ?_
        case rh114 => rw [HOPS.out]; simp only [List.getElem?_toArray, List.getElem?_cons_succ, List.getElem?_cons_zero]; exact rfl
        case rg114 => rfl
        case rq114 => exact fun _ _ _ h => h
        case ry114 => intro w'; go_simp; try with_reducible rfl
        simp only [Act.put, List.setIfInBounds_toArray, List.set_cons_succ, List.set_cons_zero]
        refine wpFl_pure (o := ?ro115) (v := ?rv115) ?rh115 ?rg115 ?rq115 ?ry115 ?_
        case rh115 => rw [HOPS.out]; simp only [List.getElem?_toArray, List.getElem?_cons_succ, List.getElem?_cons_zero]; exact rfl
        case rg115 => rfl
        case rq115 => exact fun _ _ _ h => h
        case ry115 => intro w'; go_simp; try with_reducible rfl
        simp only [Act.put, List.setIfInBounds_toArray, List.set_cons_succ, List.set_cons_zero]
        refine wpFl_pure (o := ?ro116) (v := ?rv116) ?rh116 ?rg116 ?rq116 ?ry116 ?_
        case rh116 => rw [HOPS.out]; simp only [List.getElem?_toArray, List.getElem?_cons_succ, List.getElem?_cons_zero]; exact rfl
        case rg116 => rfl
        case rq116 => exact fun _ _ _ h => h
        case ry116 => intro w'; go_simp; try with_reducible rfl
        simp only [Act.put, List.setIfInBounds_toArray, List.set_cons_succ, List.set_cons_zero]
        refine wpFl_here (oa := ?rp117) ?rh117 (fun K hK => ?_)
        case rh117 => rw [HOPS.out]; simp only [List.getElem?_toArray, List.getElem?_cons_succ, List.getElem?_cons_zero]; exact rfl
        go_simp
        refine hK _ _ (fun _ _ => HB3.out.alloc HB3.out.size _) ?_
        clear hK K
        have HSx := hide (Hs.alloc HS3.out (.cells ZL 27))
        have HRx := hide (LineR.boxed HR3.out ((Below.refl w3.heap.size w3).alloc (Nat.le_refl _) (.cells ZL 27)) (L' := w3.heap.size :: _) (fun k hk => by rcases List.mem_cons.1 hk with rfl | hk; exact .inr (Nat.le_refl _); exact .inl hk))
        have HZx := hide (Blk.new w3 27 ZL)
        have BQ := hide (below_setRow (HB3.out.alloc HB3.out.size (.cells ZL 27)) (HB3.out.size) ca3)
        refine wpSeq_step (o := ?ro118) ?rh118 (fun K hK => ?_)
        case rh118 => rw [HOPS.out]; simp only [List.getElem?_toArray, List.getElem?_cons_succ, List.getElem?_cons_zero]; exact rfl
        refine step_store_row rfl 27 (.tmp 14) (.tmp 61) rfl w3.heap.size ca3 rfl rfl 27 ZL HZx.out (by rw [HZ3.out]; kernel_rfl) (by rw [HZ3.out]; rfl) H13.out ?_
        have HS5 := hide (Hs.store (z := ZL) HSx.out (by simp) (HS3.out).ne (HS3.out).old_lt HZx.out HRx.out)
        refine hK _ _ (fun _ _ => BQ.out) ?_
        clear hK K
        simp only [Act.put, List.setIfInBounds_toArray, List.set_cons_succ, List.set_cons_zero]
        refine wpSeq_pure (o := ?ro119) (v := ?rv119) ?rh119 ?rg119 ?rq119 ?ry119 ?_
        case rh119 => rw [HOPS.out]; simp only [List.getElem?_toArray, List.getElem?_cons_succ, List.getElem?_cons_zero]; exact rfl
        case rg119 => rfl
        case rq119 => exact fun _ _ _ h => h
        case ry119 => intro w'; go_simp; try with_reducible rfl
        simp only [Act.put, List.setIfInBounds_toArray, List.set_cons_succ, List.set_cons_zero]
        refine wpSeq_nil ?_
        go_wp2_with fail
        go_meet
        exact ⟨_, _, rfl, rfl, HS5.out⟩
      · go_simp
        refine hK _ _ (fun _ _ => HB2.out.alloc HB2.out.size _) ?_
        clear hK K
        refine wpSeq_step (o := ?ro120) ?rh120 (fun K hK => ?_)
        case rh120 => rw [HOPS.out]; simp only [List.getElem?_toArray, List.getElem?_cons_succ, List.getElem?_cons_zero]; exact rfl
        go_simp
        refine (act_eq _ cs oa X0 (opM 4 5 2 0) Xr 0 rfl _ (LineR.boxed RR.out (HB2.out.alloc HB2.out.size (.cells ZL 27)) (L' := w2.heap.size :: _) (fun k hk => by rcases List.mem_cons.1 hk with rfl | hk; exact .inr HB2.out.size; exact .inl hk)) HOA.out (by decide) (by decide) rfl rfl).mono ?_
        rintro e w3 ⟨ca3, rfl, hr3, hz3, h13, hb3⟩
        have HR3 := hide (LineR.called hr3 (fun g hg => ((Hs.alloc (HS.out.after HB2.out) (.cells ZL 27)).2.2.2.1 g hg).1) (Hs.alloc (HS.out.after HB2.out) (.cells ZL 27)).1.size)
        have HS3 := hide ((Hs.alloc (HS.out.after HB2.out) (.cells ZL 27)).after hb3)
        have HZ3 := hide hz3
        have H13 := hide h13
        have HB3 := hide ((HB2.out.alloc HB2.out.size (.cells ZL 27)).trans (hb3.mono (HB2.out.alloc HB2.out.size (.cells ZL 27)).size))
        have HZ4 := hide ((Blk.new w2 27 ZL).after hb3)
        clear hr3 hz3 h13 hb3
        refine hK _ _ (fun _ _ => HB3.out) ?_
        clear hK K
        refine wpSeq_pure (o := ?ro121) (v := ?rv121) ?rh121 ?rg121 ?rq121 ?ry121 ?_
        case rh121 => rw [HOPS.out]; simp only [List.getElem?_toArray, List.getElem?_cons_succ, List.getElem?_cons_zero]; exact rfl
        case rg121 => rfl
        case rq121 => exact fun _ _ _ h => h
        case ry121 => intro w'; go_simp; try with_reducible rfl
        simp only [Act.put, List.setIfInBounds_toArray, List.set_cons_succ, List.set_cons_zero]
        refine wpSeq_pure (o := ?ro122) (v := ?rv122) ?rh122 ?rg122 ?rq122 ?ry122 ?_
        case rh122 => rw [HOPS.out]; simp only [List.getElem?_toArray, List.getElem?_cons_succ, List.getElem?_cons_zero]; exact rfl
        case rg122 => rfl
        case rq122 => exact fun _ _ _ h => h
        case ry122 => intro w'; go_simp; try with_reducible rfl
        simp only [Act.put, List.setIfInBounds_toArray, List.set_cons_succ, List.set_cons_zero]
        refine wpSeq_pure (o := ?ro123) (v := ?rv123) ?rh123 ?rg123 ?rq123 ?ry123 ?_
        case rh123 => rw [HOPS.out]; simp only [List.getElem?_toArray, List.getElem?_cons_succ, List.getElem?_cons_zero]; exact rfl
        case rg123 => rfl
        case rq123 => exact fun _ _ _ h => h
        case ry123 => intro w'; go_simp; try with_reducible rfl
        simp only [Act.put, List.setIfInBounds_toArray, List.set_cons_succ, List.set_cons_zero]
        have HSx := hide (HS3.out)
        have HRx := hide (HR3.out)
        have HZx := hide (HZ4.out)
        have BQ := hide (below_setRow (HB3.out) (HB2.out.size) ca3)
        refine wpSeq_step (o := ?ro124) ?rh124 (fun K hK => ?_)
        case rh124 => rw [HOPS.out]; simp only [List.getElem?_toArray, List.getElem?_cons_succ, List.getElem?_cons_zero]; exact rfl
        refine step_store_row rfl 27 (.tmp 14) (.tmp 61) rfl w2.heap.size ca3 rfl rfl 27 ZL HZx.out (by rw [HZ3.out]; kernel_rfl) (by rw [HZ3.out]; rfl) H13.out ?_
        have HS5 := hide (Hs.store (z := ZL) HSx.out (by simp) (HS.out.after HB2.out).ne (HS.out.after HB2.out).old_lt HZx.out HRx.out)
        refine hK _ _ (fun _ _ => BQ.out) ?_
        clear hK K
        simp only [Act.put, List.setIfInBounds_toArray, List.set_cons_succ, List.set_cons_zero]
        refine wpSeq_pure (o := ?ro125) (v := ?rv125) ?rh125 ?rg125 ?rq125 ?ry125 ?_
        case rh125 => rw [HOPS.out]; simp only [List.getElem?_toArray, List.getElem?_cons_succ, List.getElem?_cons_zero]; exact rfl
        case rg125 => rfl
        case rq125 => exact fun _ _ _ h => h
        case ry125 => intro w'; go_simp; try with_reducible rfl
        simp only [Act.put, List.setIfInBounds_toArray, List.set_cons_succ, List.set_cons_zero]
        refine wpSeq_nil ?_
        go_wp2_with fail
        go_meet
        exact ⟨_, _, rfl, rfl, HS5.out⟩
    · go_simp
      refine hK _ _ (fun _ _ => ((Below.refl _ _).alloc (Nat.le_refl _) _).drew) ?_
      clear hK K
      refine wpSeq_step (o := ?ro126) ?rh126 (fun K hK => ?_)
      case rh126 => rw [HOPS.out]; simp only [List.getElem?_toArray, List.getElem?_cons_succ, List.getElem?_cons_zero]; exact rfl
      go_simp
      refine (op_any 4 5 2 0 _).mono ?_
      rintro e w2 ⟨oa, rfl, ho, hb⟩
      have HOA := hide ho
      have HB1 := hide (show Below (wc.alloc (.cells ZL 27)).heap.size (wc.alloc (.cells ZL 27)) w2 from undrew hb)
      have HB2 := hide (((Below.refl wc.heap.size wc).alloc (Nat.le_refl _) (.cells ZL 27)).trans (HB1.out.mono (by simp)))
      clear ho hb
      refine hK _ _ (fun _ _ => HB2.out) ?_
      clear hK K
      refine wpSeq_step (o := ?ro127) ?rh127 (fun K hK => ?_)
      case rh127 => rw [HOPS.out]; simp only [List.getElem?_toArray, List.getElem?_cons_succ, List.getElem?_cons_zero]; exact rfl
      go_simp
      refine (act_eq _ cs oa X0 (opM 4 5 2 0) Xr 0 rfl _ (LineR.boxed RR.out HB2.out (L' := wc.heap.size :: _) (fun k hk => by rcases List.mem_cons.1 hk with rfl | hk; exact .inr (Nat.le_refl _); exact .inl hk)) HOA.out (by decide) (by decide) rfl rfl).mono ?_
      rintro e w3 ⟨ca3, rfl, hr3, hz3, h13, hb3⟩
      have HR3 := hide (LineR.called hr3 (fun g hg => (((Hs.alloc HS.out (.cells ZL 27)).after HB1.out).2.2.2.1 g hg).1) ((Hs.alloc HS.out (.cells ZL 27)).after HB1.out).1.size)
      have HS3 := hide (((Hs.alloc HS.out (.cells ZL 27)).after HB1.out).after hb3)
      have HZ3 := hide hz3
      have H13 := hide h13
      have HB3 := hide (HB2.out.trans (hb3.mono HB2.out.size))
      have HZ4 := hide (((Blk.new wc 27 ZL).after HB1.out).after hb3)
      clear hr3 hz3 h13 hb3
      refine hK _ _ (fun _ _ => HB3.out) ?_
      clear hK K
      refine wpSeq_pure (o := ?ro128) (v := ?rv128) ?rh128 ?rg128 ?rq128 ?ry128 ?_
      case rh128 => rw [HOPS.out]; simp only [List.getElem?_toArray, List.getElem?_cons_succ, List.getElem?_cons_zero]; exact rfl
      case rg128 => rfl
      case rq128 => exact fun _ _ _ h => h
      case ry128 => intro w'; go_simp; try with_reducible rfl
      simp only [Act.put, List.setIfInBounds_toArray, List.set_cons_succ, List.set_cons_zero]
      refine wpSeq_pure (o := ?ro129) (v := ?rv129) ?rh129 ?rg129 ?rq129 ?ry129 ?_
      case rh129 => rw [HOPS.out]; simp only [List.getElem?_toArray, List.getElem?_cons_succ, List.getElem?_cons_zero]; exact rfl
      case rg129 => rfl
      case rq129 => exact fun _ _ _ h => h
      case ry129 => intro w'; go_simp; try with_reducible rfl
      simp only [Act.put, List.setIfInBounds_toArray, List.set_cons_succ, List.set_cons_zero]
      refine wpSeq_pure (o := ?ro130) (v := ?rv130) ?rh130 ?rg130 ?rq130 ?ry130 ?_
      case rh130 => rw [HOPS.out]; simp only [List.getElem?_toArray, List.getElem?_cons_succ, List.getElem?_cons_zero]; exact rfl
      case rg130 => rfl
      case rq130 => exact fun _ _ _ h => h
      case ry130 => intro w'; go_simp; try with_reducible rfl
      simp only [Act.put, List.setIfInBounds_toArray, List.set_cons_succ, List.set_cons_zero]
      have HSx := hide (HS3.out)
      have HRx := hide (HR3.out)
      have HZx := hide (HZ4.out)
      have BQ := hide (below_setRow (HB3.out) (Nat.le_refl _) ca3)
      refine wpSeq_step (o := ?ro131) ?rh131 (fun K hK => ?_)
      case rh131 => rw [HOPS.out]; simp only [List.getElem?_toArray, List.getElem?_cons_succ, List.getElem?_cons_zero]; exact rfl
      refine step_store_row rfl 27 (.tmp 14) (.tmp 61) rfl wc.heap.size ca3 rfl rfl 27 ZL HZx.out (by rw [HZ3.out]; kernel_rfl) (by rw [HZ3.out]; rfl) H13.out ?_
      have HS5 := hide (Hs.store (z := ZL) HSx.out (by simp) (HS.out).ne (HS.out).old_lt HZx.out HRx.out)
      refine hK _ _ (fun _ _ => BQ.out) ?_
      clear hK K
      simp only [Act.put, List.setIfInBounds_toArray, List.set_cons_succ, List.set_cons_zero]
      refine wpSeq_pure (o := ?ro132) (v := ?rv132) ?rh132 ?rg132 ?rq132 ?ry132 ?_
      case rh132 => rw [HOPS.out]; simp only [List.getElem?_toArray, List.getElem?_cons_succ, List.getElem?_cons_zero]; exact rfl
      case rg132 => rfl
      case rq132 => exact fun _ _ _ h => h
      case ry132 => intro w'; go_simp; try with_reducible rfl
      simp only [Act.put, List.setIfInBounds_toArray, List.set_cons_succ, List.set_cons_zero]
      refine wpSeq_nil ?_
      go_wp2_with fail
      go_meet
      exact ⟨_, _, rfl, rfl, HS5.out⟩
  obtain ⟨g14, L14, rfl, rfl, hs⟩ := hcut
  clear HS
  have HS := hide hs
  clear hs
  go_upto_region 9 with fail
  go_cut [16, 17] (Got w aa [(g14, Xr), (g12, Xd), (g10, Xc), (g8, Xb), (g6, Xb), (g4, Xa), (w1.heap.size, X0)] Xr 278)
  case first =>
    obtain ⟨cs, k, rr, hsz⟩ := HS.out.get (g := g14) (M := Xr) (by simp)
    have KS := hide k
    have RR := hide rr
    have HZ := hide hsz
    clear k rr hsz
    have s0 : Below wc.heap.size wc wc.drew := (Below.refl _ _).drew
    refine wp_region_fl 6 [(0, 1, []), (1, 0, [(1, 0), (2, 0), (3, 2), (4, 2), (5, 2), (7, 0), (8, 2)]), (2, 0, [(2, 0), (3, 2), (4, 2), (5, 2), (7, 0), (8, 2)]), (3, 2, []), (4, 2, []), (5, 2, []), (6, 4, [(7, 0), (8, 2)])] (fun _ => true) (fun w' => Below wc.heap.size wc w') (by kernel_rfl) (by kernel_rfl) ?_
    intro ops hops
    have HOPS := hide hops
    clear hops
    refine wpFl_read (o := ?ro133) (v := ?rv133) ?rh133 ?rg133 ?rq133 s0 ?ry133 ?_
    case rh133 => rw [HOPS.out]; simp only [List.getElem?_toArray, List.getElem?_cons_succ, List.getElem?_cons_zero]; exact rfl
    case rg133 => rfl
    case rq133 => exact fun _ _ _ h => h
    case ry133 => intro w' hs; refine exec_load_row (ρ := Act.eval _) 27 (.tmp 14) ?_ _ ?_ 27 cs _ (KS.out.after hs) Try.underlying27 rfl (by rw [HZ.out]; kernel_rfl) <;> rfl
    simp only [Act.put, List.setIfInBounds_toArray, List.set_cons_succ, List.set_cons_zero]
    refine wpFl_fork (o := ?ro134) (oa := ?rp134) ?rh134 ?ri134 (fun K hK => ?_) (fun K hK => ?_)
    case rh134 => rw [HOPS.out]; simp only [List.getElem?_toArray, List.getElem?_cons_succ, List.getElem?_cons_zero]; exact rfl
    case ri134 => rw [HOPS.out]; simp only [List.getElem?_toArray, List.getElem?_cons_succ, List.getElem?_cons_zero]; exact rfl
    · go_simp
      refine (op_any 5 4 2 0 _).mono ?_
      rintro e w2 ⟨oa, rfl, ho, hb⟩
      have HOA := hide ho
      have HB2 := hide (undrew hb)
      clear ho hb
      refine hK _ _ (fun _ _ => HB2.out) ?_
      clear hK K
      refine wpFl_fork (o := ?ro135) (oa := ?rp135) ?rh135 ?ri135 (fun K hK => ?_) (fun K hK => ?_)
      case rh135 => rw [HOPS.out]; simp only [List.getElem?_toArray, List.getElem?_cons_succ, List.getElem?_cons_zero]; exact rfl
      case ri135 => rw [HOPS.out]; simp only [List.getElem?_toArray, List.getElem?_cons_succ, List.getElem?_cons_zero]; exact rfl
      · go_simp
        refine (act_eq _ cs oa Xr (opM 5 4 2 0) Xr 278 rfl _ (LineR.after RR.out HB2.out) HOA.out (by decide) (by decide) rfl rfl).mono ?_
        rintro e w3 ⟨ca3, rfl, hr3, hz3, h13, hb3⟩
        have HR3 := hide (LineR.called hr3 (fun g hg => ((HS.out.after HB2.out).2.2.2.1 g hg).1) (HS.out.after HB2.out).1.size)
        have HS3 := hide ((HS.out.after HB2.out).after hb3)
        have HZ3 := hide hz3
        have H13 := hide h13
        have HB3 := hide (HB2.out.trans (hb3.mono HB2.out.size))
        clear hr3 hz3 h13 hb3
        refine hK _ _ (fun _ _ => HB3.out) ?_
        clear hK K
        refine wpFl_pure (o := ?ro136) (v := ?rv136) ?rh136 ?rg136 ?rq136 ?ry136 ?_
        case rh136 => rw [HOPS.out]; simp only [List.getElem?_toArray, List.getElem?_cons_succ, List.getElem?_cons_zero]; exact rfl
        case rg136 => rfl
        case rq136 => exact fun _ _ _ h => h
        case ry136 => intro w'; go_simp; try with_reducible rfl
        simp only [Act.put, List.setIfInBounds_toArray, List.set_cons_succ, List.set_cons_zero]
        refine wpFl_pure (o := ?ro137) (v := ?rv137) ?rh137 ?rg137 ?rq137 ?ry137 ?_
        case rh137 => rw [HOPS.out]; simp only [List.getElem?_toArray, List.getElem?_cons_succ, List.getElem?_cons_zero]; exact rfl
        case rg137 => rfl
        case rq137 => exact fun _ _ _ h => h
        case ry137 => intro w'; go_simp; try with_reducible rfl
        simp only [Act.put, List.setIfInBounds_toArray, List.set_cons_succ, List.set_cons_zero]
        refine wpFl_pure (o := ?ro138) (v := ?rv138) ?rh138 ?rg138 ?rq138 ?ry138 ?_
        case rh138 => rw [HOPS.out]; simp only [List.getElem?_toArray, List.getElem?_cons_succ, List.getElem?_cons_zero]; exact rfl
        case rg138 => rfl
        case rq138 => exact fun _ _ _ h => h
        case ry138 => intro w'; go_simp; try with_reducible rfl
        simp only [Act.put, List.setIfInBounds_toArray, List.set_cons_succ, List.set_cons_zero]
        refine wpFl_here (oa := ?rp139) ?rh139 (fun K hK => ?_)
        case rh139 => rw [HOPS.out]; simp only [List.getElem?_toArray, List.getElem?_cons_succ, List.getElem?_cons_zero]; exact rfl
        go_simp
        refine hK _ _ (fun _ _ => HB3.out.alloc HB3.out.size _) ?_
        clear hK K
        have HSx := hide (Hs.alloc HS3.out (.cells ZL 27))
        have HRx := hide (LineR.boxed HR3.out ((Below.refl w3.heap.size w3).alloc (Nat.le_refl _) (.cells ZL 27)) (L' := w3.heap.size :: _) (fun k hk => by rcases List.mem_cons.1 hk with rfl | hk; exact .inr (Nat.le_refl _); exact .inl hk))
        have HZx := hide (Blk.new w3 27 ZL)
        have BQ := hide (below_setRow (HB3.out.alloc HB3.out.size (.cells ZL 27)) (HB3.out.size) ca3)
        refine wpSeq_step (o := ?ro140) ?rh140 (fun K hK => ?_)
        case rh140 => rw [HOPS.out]; simp only [List.getElem?_toArray, List.getElem?_cons_succ, List.getElem?_cons_zero]; exact rfl
        refine step_store_row rfl 27 (.tmp 16) (.tmp 67) rfl w3.heap.size ca3 rfl rfl 27 ZL HZx.out (by rw [HZ3.out]; kernel_rfl) (by rw [HZ3.out]; rfl) H13.out ?_
        have HS5 := hide (Hs.store (z := ZL) HSx.out (by simp) (HS3.out).ne (HS3.out).old_lt HZx.out HRx.out)
        refine hK _ _ (fun _ _ => BQ.out) ?_
        clear hK K
        simp only [Act.put, List.setIfInBounds_toArray, List.set_cons_succ, List.set_cons_zero]
        refine wpSeq_pure (o := ?ro141) (v := ?rv141) ?rh141 ?rg141 ?rq141 ?ry141 ?_
        case rh141 => rw [HOPS.out]; simp only [List.getElem?_toArray, List.getElem?_cons_succ, List.getElem?_cons_zero]; exact rfl
        case rg141 => rfl
        case rq141 => exact fun _ _ _ h => h
        case ry141 => intro w'; go_simp; try with_reducible rfl
        simp only [Act.put, List.setIfInBounds_toArray, List.set_cons_succ, List.set_cons_zero]
        refine wpSeq_nil ?_
        go_wp2_with fail
        go_meet
        exact ⟨_, _, rfl, rfl, HS5.out⟩
      · go_simp
        refine hK _ _ (fun _ _ => HB2.out.alloc HB2.out.size _) ?_
        clear hK K
        refine wpSeq_step (o := ?ro142) ?rh142 (fun K hK => ?_)
        case rh142 => rw [HOPS.out]; simp only [List.getElem?_toArray, List.getElem?_cons_succ, List.getElem?_cons_zero]; exact rfl
        go_simp
        refine (act_eq _ cs oa Xr (opM 5 4 2 0) Xr 278 rfl _ (LineR.boxed RR.out (HB2.out.alloc HB2.out.size (.cells ZL 27)) (L' := w2.heap.size :: _) (fun k hk => by rcases List.mem_cons.1 hk with rfl | hk; exact .inr HB2.out.size; exact .inl hk)) HOA.out (by decide) (by decide) rfl rfl).mono ?_
        rintro e w3 ⟨ca3, rfl, hr3, hz3, h13, hb3⟩
        have HR3 := hide (LineR.called hr3 (fun g hg => ((Hs.alloc (HS.out.after HB2.out) (.cells ZL 27)).2.2.2.1 g hg).1) (Hs.alloc (HS.out.after HB2.out) (.cells ZL 27)).1.size)
        have HS3 := hide ((Hs.alloc (HS.out.after HB2.out) (.cells ZL 27)).after hb3)
        have HZ3 := hide hz3
        have H13 := hide h13
        have HB3 := hide ((HB2.out.alloc HB2.out.size (.cells ZL 27)).trans (hb3.mono (HB2.out.alloc HB2.out.size (.cells ZL 27)).size))
        have HZ4 := hide ((Blk.new w2 27 ZL).after hb3)
        clear hr3 hz3 h13 hb3
        refine hK _ _ (fun _ _ => HB3.out) ?_
        clear hK K
        refine wpSeq_pure (o := ?ro143) (v := ?rv143) ?rh143 ?rg143 ?rq143 ?ry143 ?_
        case rh143 => rw [HOPS.out]; simp only [List.getElem?_toArray, List.getElem?_cons_succ, List.getElem?_cons_zero]; exact rfl
        case rg143 => rfl
        case rq143 => exact fun _ _ _ h => h
        case ry143 => intro w'; go_simp; try with_reducible rfl
        simp only [Act.put, List.setIfInBounds_toArray, List.set_cons_succ, List.set_cons_zero]
        refine wpSeq_pure (o := ?ro144) (v := ?rv144) ?rh144 ?rg144 ?rq144 ?ry144 ?_
        case rh144 => rw [HOPS.out]; simp only [List.getElem?_toArray, List.getElem?_cons_succ, List.getElem?_cons_zero]; exact rfl
        case rg144 => rfl
        case rq144 => exact fun _ _ _ h => h
        case ry144 => intro w'; go_simp; try with_reducible rfl
        simp only [Act.put, List.setIfInBounds_toArray, List.set_cons_succ, List.set_cons_zero]
        refine wpSeq_pure (o := ?ro145) (v := ?rv145) ?rh145 ?rg145 ?rq145 ?ry145 ?_
        case rh145 => rw [HOPS.out]; simp only [List.getElem?_toArray, List.getElem?_cons_succ, List.getElem?_cons_zero]; exact rfl
        case rg145 => rfl
        case rq145 => exact fun _ _ _ h => h
        case ry145 => intro w'; go_simp; try with_reducible rfl
        simp only [Act.put, List.setIfInBounds_toArray, List.set_cons_succ, List.set_cons_zero]
        have HSx := hide (HS3.out)
        have HRx := hide (HR3.out)
        have HZx := hide (HZ4.out)
        have BQ := hide (below_setRow (HB3.out) (HB2.out.size) ca3)
        refine wpSeq_step (o := ?ro146) ?rh146 (fun K hK => ?_)
        case rh146 => rw [HOPS.out]; simp only [List.getElem?_toArray, List.getElem?_cons_succ, List.getElem?_cons_zero]; exact rfl
        refine step_store_row rfl 27 (.tmp 16) (.tmp 67) rfl w2.heap.size ca3 rfl rfl 27 ZL HZx.out (by rw [HZ3.out]; kernel_rfl) (by rw [HZ3.out]; rfl) H13.out ?_
        have HS5 := hide (Hs.store (z := ZL) HSx.out (by simp) (HS.out.after HB2.out).ne (HS.out.after HB2.out).old_lt HZx.out HRx.out)
        refine hK _ _ (fun _ _ => BQ.out) ?_
        clear hK K
        simp only [Act.put, List.setIfInBounds_toArray, List.set_cons_succ, List.set_cons_zero]
        refine wpSeq_pure (o := ?ro147) (v := ?rv147) ?rh147 ?rg147 ?rq147 ?ry147 ?_
        case rh147 => rw [HOPS.out]; simp only [List.getElem?_toArray, List.getElem?_cons_succ, List.getElem?_cons_zero]; exact rfl
        case rg147 => rfl
        case rq147 => exact fun _ _ _ h => h
        case ry147 => intro w'; go_simp; try with_reducible rfl
        simp only [Act.put, List.setIfInBounds_toArray, List.set_cons_succ, List.set_cons_zero]
        refine wpSeq_nil ?_
        go_wp2_with fail
        go_meet
        exact ⟨_, _, rfl, rfl, HS5.out⟩
    · go_simp
      refine hK _ _ (fun _ _ => ((Below.refl _ _).alloc (Nat.le_refl _) _).drew) ?_
      clear hK K
      refine wpSeq_step (o := ?ro148) ?rh148 (fun K hK => ?_)
      case rh148 => rw [HOPS.out]; simp only [List.getElem?_toArray, List.getElem?_cons_succ, List.getElem?_cons_zero]; exact rfl
      go_simp
      refine (op_any 5 4 2 0 _).mono ?_
      rintro e w2 ⟨oa, rfl, ho, hb⟩
      have HOA := hide ho
      have HB1 := hide (show Below (wc.alloc (.cells ZL 27)).heap.size (wc.alloc (.cells ZL 27)) w2 from undrew hb)
      have HB2 := hide (((Below.refl wc.heap.size wc).alloc (Nat.le_refl _) (.cells ZL 27)).trans (HB1.out.mono (by simp)))
      clear ho hb
      refine hK _ _ (fun _ _ => HB2.out) ?_
      clear hK K
      refine wpSeq_step (o := ?ro149) ?rh149 (fun K hK => ?_)
      case rh149 => rw [HOPS.out]; simp only [List.getElem?_toArray, List.getElem?_cons_succ, List.getElem?_cons_zero]; exact rfl
      go_simp
      refine (act_eq _ cs oa Xr (opM 5 4 2 0) Xr 278 rfl _ (LineR.boxed RR.out HB2.out (L' := wc.heap.size :: _) (fun k hk => by rcases List.mem_cons.1 hk with rfl | hk; exact .inr (Nat.le_refl _); exact .inl hk)) HOA.out (by decide) (by decide) rfl rfl).mono ?_
      rintro e w3 ⟨ca3, rfl, hr3, hz3, h13, hb3⟩
      have HR3 := hide (LineR.called hr3 (fun g hg => (((Hs.alloc HS.out (.cells ZL 27)).after HB1.out).2.2.2.1 g hg).1) ((Hs.alloc HS.out (.cells ZL 27)).after HB1.out).1.size)
      have HS3 := hide (((Hs.alloc HS.out (.cells ZL 27)).after HB1.out).after hb3)
      have HZ3 := hide hz3
      have H13 := hide h13
      have HB3 := hide (HB2.out.trans (hb3.mono HB2.out.size))
      have HZ4 := hide (((Blk.new wc 27 ZL).after HB1.out).after hb3)
      clear hr3 hz3 h13 hb3
      refine hK _ _ (fun _ _ => HB3.out) ?_
      clear hK K
      refine wpSeq_pure (o := ?ro150) (v := ?rv150) ?rh150 ?rg150 ?rq150 ?ry150 ?_
      case rh150 => rw [HOPS.out]; simp only [List.getElem?_toArray, List.getElem?_cons_succ, List.getElem?_cons_zero]; exact rfl
      case rg150 => rfl
      case rq150 => exact fun _ _ _ h => h
      case ry150 => intro w'; go_simp; try with_reducible rfl
      simp only [Act.put, List.setIfInBounds_toArray, List.set_cons_succ, List.set_cons_zero]
      refine wpSeq_pure (o := ?ro151) (v := ?rv151) ?rh151 ?rg151 ?rq151 ?ry151 ?_
      case rh151 => rw [HOPS.out]; simp only [List.getElem?_toArray, List.getElem?_cons_succ, List.getElem?_cons_zero]; exact rfl
      case rg151 => rfl
      case rq151 => exact fun _ _ _ h => h
      case ry151 => intro w'; go_simp; try with_reducible rfl
      simp only [Act.put, List.setIfInBounds_toArray, List.set_cons_succ, List.set_cons_zero]
      refine wpSeq_pure (o := ?ro152) (v := ?rv152) ?rh152 ?rg152 ?rq152 ?ry152 ?_
      case rh152 => rw [HOPS.out]; simp only [List.getElem?_toArray, List.getElem?_cons_succ, List.getElem?_cons_zero]; exact rfl
      case rg152 => rfl
      case rq152 => exact fun _ _ _ h => h
      case ry152 => intro w'; go_simp; try with_reducible rfl
      simp only [Act.put, List.setIfInBounds_toArray, List.set_cons_succ, List.set_cons_zero]
      have HSx := hide (HS3.out)
      have HRx := hide (HR3.out)
      have HZx := hide (HZ4.out)
      have BQ := hide (below_setRow (HB3.out) (Nat.le_refl _) ca3)
      refine wpSeq_step (o := ?ro153) ?rh153 (fun K hK => ?_)
      case rh153 => rw [HOPS.out]; simp only [List.getElem?_toArray, List.getElem?_cons_succ, List.getElem?_cons_zero]; exact rfl
      refine step_store_row rfl 27 (.tmp 16) (.tmp 67) rfl wc.heap.size ca3 rfl rfl 27 ZL HZx.out (by rw [HZ3.out]; kernel_rfl) (by rw [HZ3.out]; rfl) H13.out ?_
      have HS5 := hide (Hs.store (z := ZL) HSx.out (by simp) (HS.out).ne (HS.out).old_lt HZx.out HRx.out)
      refine hK _ _ (fun _ _ => BQ.out) ?_
      clear hK K
      simp only [Act.put, List.setIfInBounds_toArray, List.set_cons_succ, List.set_cons_zero]
      refine wpSeq_pure (o := ?ro154) (v := ?rv154) ?rh154 ?rg154 ?rq154 ?ry154 ?_
      case rh154 => rw [HOPS.out]; simp only [List.getElem?_toArray, List.getElem?_cons_succ, List.getElem?_cons_zero]; exact rfl
      case rg154 => rfl
      case rq154 => exact fun _ _ _ h => h
      case ry154 => intro w'; go_simp; try with_reducible rfl
      simp only [Act.put, List.setIfInBounds_toArray, List.set_cons_succ, List.set_cons_zero]
      refine wpSeq_nil ?_
      go_wp2_with fail
      go_meet
      exact ⟨_, _, rfl, rfl, HS5.out⟩
  obtain ⟨g16, L16, rfl, rfl, hs⟩ := hcut
  clear HS
  have HS := hide hs
  clear hs
  go_upto_region 10 with fail
  apply wp_region_lit
  obtain ⟨c2, k2, r2, z2⟩ := HS.out.get (g := w1.heap.size) (M := X0) (by simp)
  have K2 := hide k2
  have R2 := hide r2
  have Z2 := hide z2
  clear k2 r2 z2
  refine wpList_load_row_g rfl 27 (.tmp 2) rfl _ rfl 27 c2 _ K2.out Try.underlying27 rfl (by rw [Z2.out]; kernel_rfl) ?_
  refine wpList_load_row_g rfl 33 (.tmp 1) rfl _ rfl 33 aa _ HS.out.2.1 Try.underlying33 rfl (by rw [HO.out.size]; kernel_rfl) ?_
  refine wpList_plain rfl (fun K hK => ?_)
  go_simp
  refine (act_eq _ c2 aa X0 addO zeroLine 2 rfl _ R2.out HO.out (by decide) (by decide) rfl rfl).mono ?_
  rintro e w3 ⟨ca3, rfl, hr3, hz3, h13, hb3⟩
  have HS3 := hide (HS.out.after hb3)
  have HR3 := hide (LineR.called hr3 (fun g hg => (HS.out.2.2.2.1 g hg).1) HS.out.1.size)
  have HZ3 := hide hz3
  have H13 := hide h13
  clear hr3 hz3 h13 hb3 HS K2 R2 Z2
  refine hK _ _ ?_
  clear hK K
  refine wpList_plain rfl (fun K hK => ?_)
  go_simp
  refine hK _ _ ?_
  clear hK K
  refine wpList_plain rfl (fun K hK => ?_)
  go_simp
  refine hK _ _ ?_
  clear hK K
  refine wpList_plain rfl (fun K hK => ?_)
  go_simp
  refine hK _ _ ?_
  clear hK K
  refine wpList_plain rfl (fun K hK => ?_)
  go_simp
  refine hK _ _ ?_
  clear hK K
  refine wpList_store_row rfl 27 (.tmp 18) (.tmp 73) rfl w3.heap.size ca3 rfl rfl 27 _ (heap_alloc_new _ _) (by rw [HZ3.out]; kernel_rfl) (by rw [HZ3.out]; rfl) (by rw [Array.all_eq_true_iff_forall_mem]; intro u hu; exact H13.out u (by simpa using hu)) ?_
  refine wpList_plain rfl (fun K hK => ?_)
  go_simp
  refine hK _ _ ?_
  clear hK K
  go_upto_region 11 with fail
  refine at_code0 (fun W => Hs w aa (w3.heap.size :: L16) ((w3.heap.size, zeroLine) :: [(g16, Xr), (g14, Xr), (g12, Xd), (g10, Xc), (g8, Xb), (g6, Xb), (g4, Xa), (w1.heap.size, X0)]) W) ?_ ?_
  · exact Hs.store (z := ZL) (Hs.alloc HS3.out _) (by simp) HS3.out.ne HS3.out.old_lt (Blk.new _ _ _) (LineR.boxed HR3.out ((Below.refl w3.heap.size w3).alloc (Nat.le_refl _) (.cells ZL 27)) (L' := w3.heap.size :: _) (fun k hk => by rcases List.mem_cons.1 hk with rfl | hk; exact .inr (Nat.le_refl _); exact .inl hk))
  intro W hs
  clear HS3 HR3 HZ3 H13
  have HS := hide hs
  clear hs
  apply wp_region_lit
  refine wpList_step (fun K hK => ?_)
  go_simp
  refine hK _ _ ?_
  clear hK K
  refine wpList_step (fun K hK => ?_)
  go_simp
  refine hK _ _ ?_
  clear hK K
  refine wpList_step (fun K hK => ?_)
  go_simp
  refine hK _ _ ?_
  clear hK K
  obtain ⟨cx, kx, rx, zx⟩ := HS.out.get (g := w1.heap.size) (M := X0) (by simp)
  have KX := hide kx
  have RX := hide rx
  have ZX := hide zx
  clear kx rx zx
  refine wpList_load_row_g rfl 27 (.tmp 2) rfl _ rfl 27 cx _ KX.out Try.underlying27 rfl (by rw [ZX.out]; kernel_rfl) ?_
  refine wpList_step (fun K hK => ?_)
  go_simp
  refine (total_eq _ cx X0 20 (by decide) _ RX.out).mono ?_
  rintro e wn ⟨rfl, hb⟩
  have HS' := hide (HS.out.after hb)
  clear HS hb KX RX ZX
  have HS := HS'
  clear HS'
  refine hK _ _ ?_
  clear hK K
  refine wpList_step (fun K hK => ?_)
  go_simp
  refine hK _ _ ?_
  clear hK K
  refine wpList_step (fun K hK => ?_)
  go_simp
  refine hK _ _ ?_
  clear hK K
  refine wpList_step (fun K hK => ?_)
  go_simp
  refine hK _ _ ?_
  clear hK K
  refine wpList_step (fun K hK => ?_)
  go_simp
  refine hK _ _ ?_
  clear hK K
  refine wpList_step (fun K hK => ?_)
  go_simp
  refine hK _ _ ?_
  clear hK K
  refine wpList_step (fun K hK => ?_)
  go_simp
  refine hK _ _ ?_
  clear hK K
  refine wpList_step (fun K hK => ?_)
  go_simp
  refine hK _ _ ?_
  clear hK K
  obtain ⟨cx, kx, rx, zx⟩ := HS.out.get (g := g4) (M := Xa) (by simp)
  have KX := hide kx
  have RX := hide rx
  have ZX := hide zx
  clear kx rx zx
  refine wpList_load_row_g rfl 27 (.tmp 4) rfl _ rfl 27 cx _ KX.out Try.underlying27 rfl (by rw [ZX.out]; kernel_rfl) ?_
  refine wpList_step (fun K hK => ?_)
  go_simp
  refine hK _ _ ?_
  clear hK K
  refine wpList_step (fun K hK => ?_)
  go_simp
  refine (may_eq _ cx Xa 0 3 1 false rfl _ RX.out (by decide) (by decide)).mono ?_
  rintro e wn ⟨rfl, hb⟩
  have HS' := hide (HS.out.after hb)
  clear HS hb KX RX ZX
  have HS := HS'
  clear HS'
  refine hK _ _ ?_
  clear hK K
  refine wpList_step (fun K hK => ?_)
  go_simp
  refine hK _ _ ?_
  clear hK K
  refine wpList_step (fun K hK => ?_)
  go_simp
  refine hK _ _ ?_
  clear hK K
  refine wpList_step (fun K hK => ?_)
  go_simp
  refine hK _ _ ?_
  clear hK K
  obtain ⟨cx, kx, rx, zx⟩ := HS.out.get (g := g4) (M := Xa) (by simp)
  have KX := hide kx
  have RX := hide rx
  have ZX := hide zx
  clear kx rx zx
  refine wpList_load_row_g rfl 27 (.tmp 4) rfl _ rfl 27 cx _ KX.out Try.underlying27 rfl (by rw [ZX.out]; kernel_rfl) ?_
  refine wpList_step (fun K hK => ?_)
  go_simp
  refine hK _ _ ?_
  clear hK K
  refine wpList_step (fun K hK => ?_)
  go_simp
  refine (may_eq _ cx Xa 0 3 2 true rfl _ RX.out (by decide) (by decide)).mono ?_
  rintro e wn ⟨rfl, hb⟩
  have HS' := hide (HS.out.after hb)
  clear HS hb KX RX ZX
  have HS := HS'
  clear HS'
  refine hK _ _ ?_
  clear hK K
  refine wpList_step (fun K hK => ?_)
  go_simp
  refine hK _ _ ?_
  clear hK K
  refine wpList_step (fun K hK => ?_)
  go_simp
  refine hK _ _ ?_
  clear hK K
  refine wpList_step (fun K hK => ?_)
  go_simp
  refine hK _ _ ?_
  clear hK K
  refine wpList_step (fun K hK => ?_)
  go_simp
  refine hK _ _ ?_
  clear hK K
  refine wpList_step (fun K hK => ?_)
  go_simp
  refine hK _ _ ?_
  clear hK K
  refine wpList_step (fun K hK => ?_)
  go_simp
  refine hK _ _ ?_
  clear hK K
  obtain ⟨cx, kx, rx, zx⟩ := HS.out.get (g := g6) (M := Xb) (by simp)
  obtain ⟨_, _, _, _, hsz0, _, _, _, fx, _, _, _, _, _, _, _, _⟩ := LineR.parts rx
  clear hsz0
  replace fx : cx[3]? = some (.int .u32 4) := fx
  obtain ⟨ccx, ffx⟩ := kx.rules
  clear kx rx zx
  refine wpList_step (fun K hK => ?_)
  go_simp
  refine hK _ _ ?_
  clear hK K
  refine wpList_step (fun K hK => ?_)
  go_simp
  refine hK _ _ ?_
  clear hK K
  clear ccx ffx fx
  refine wpList_step (fun K hK => ?_)
  go_simp
  refine hK _ _ ?_
  clear hK K
  refine wpList_step (fun K hK => ?_)
  go_simp
  refine hK _ _ ?_
  clear hK K
  refine wpList_step (fun K hK => ?_)
  go_simp
  refine hK _ _ ?_
  clear hK K
  obtain ⟨cx, kx, rx, zx⟩ := HS.out.get (g := g6) (M := Xb) (by simp)
  have KX := hide kx
  have RX := hide rx
  have ZX := hide zx
  clear kx rx zx
  refine wpList_load_row_g rfl 27 (.tmp 6) rfl _ rfl 27 cx _ KX.out Try.underlying27 rfl (by rw [ZX.out]; kernel_rfl) ?_
  refine wpList_step (fun K hK => ?_)
  go_simp
  refine hK _ _ ?_
  clear hK K
  refine wpList_step (fun K hK => ?_)
  go_simp
  refine (may_eq _ cx Xb 0 3 2 false rfl _ RX.out (by decide) (by decide)).mono ?_
  rintro e wn ⟨rfl, hb⟩
  have HS' := hide (HS.out.after hb)
  clear HS hb KX RX ZX
  have HS := HS'
  clear HS'
  refine hK _ _ ?_
  clear hK K
  refine wpList_step (fun K hK => ?_)
  go_simp
  refine hK _ _ ?_
  clear hK K
  refine wpList_step (fun K hK => ?_)
  go_simp
  refine hK _ _ ?_
  clear hK K
  refine wpList_step (fun K hK => ?_)
  go_simp
  refine hK _ _ ?_
  clear hK K
  obtain ⟨cx, kx, rx, zx⟩ := HS.out.get (g := g6) (M := Xb) (by simp)
  have KX := hide kx
  have RX := hide rx
  have ZX := hide zx
  clear kx rx zx
  refine wpList_load_row_g rfl 27 (.tmp 6) rfl _ rfl 27 cx _ KX.out Try.underlying27 rfl (by rw [ZX.out]; kernel_rfl) ?_
  refine wpList_step (fun K hK => ?_)
  go_simp
  refine hK _ _ ?_
  clear hK K
  refine wpList_step (fun K hK => ?_)
  go_simp
  refine (may_eq _ cx Xb 0 7 2 false rfl _ RX.out (by decide) (by decide)).mono ?_
  rintro e wn ⟨rfl, hb⟩
  have HS' := hide (HS.out.after hb)
  clear HS hb KX RX ZX
  have HS := HS'
  clear HS'
  refine hK _ _ ?_
  clear hK K
  refine wpList_step (fun K hK => ?_)
  go_simp
  refine hK _ _ ?_
  clear hK K
  refine wpList_step (fun K hK => ?_)
  go_simp
  refine hK _ _ ?_
  clear hK K
  refine wpList_step (fun K hK => ?_)
  go_simp
  refine hK _ _ ?_
  clear hK K
  refine wpList_step (fun K hK => ?_)
  go_simp
  refine hK _ _ ?_
  clear hK K
  refine wpList_step (fun K hK => ?_)
  go_simp
  refine hK _ _ ?_
  clear hK K
  refine wpList_step (fun K hK => ?_)
  go_simp
  refine hK _ _ ?_
  clear hK K
  refine wpList_step (fun K hK => ?_)
  go_simp
  refine hK _ _ ?_
  clear hK K
  refine wpList_step (fun K hK => ?_)
  go_simp
  refine hK _ _ ?_
  clear hK K
  refine wpList_step (fun K hK => ?_)
  go_simp
  refine hK _ _ ?_
  clear hK K
  refine wpList_step (fun K hK => ?_)
  go_simp
  refine hK _ _ ?_
  clear hK K
  refine wpList_step (fun K hK => ?_)
  go_simp
  refine hK _ _ ?_
  clear hK K
  obtain ⟨cx, kx, rx, zx⟩ := HS.out.get (g := g10) (M := Xc) (by simp)
  have KX := hide kx
  have RX := hide rx
  have ZX := hide zx
  clear kx rx zx
  refine wpList_load_row_g rfl 27 (.tmp 10) rfl _ rfl 27 cx _ KX.out Try.underlying27 rfl (by rw [ZX.out]; kernel_rfl) ?_
  refine wpList_step (fun K hK => ?_)
  go_simp
  refine hK _ _ ?_
  clear hK K
  refine wpList_step (fun K hK => ?_)
  go_simp
  refine (may_eq _ cx Xc 0 7 2 true rfl _ RX.out (by decide) (by decide)).mono ?_
  rintro e wn ⟨rfl, hb⟩
  have HS' := hide (HS.out.after hb)
  clear HS hb KX RX ZX
  have HS := HS'
  clear HS'
  refine hK _ _ ?_
  clear hK K
  refine wpList_step (fun K hK => ?_)
  go_simp
  refine hK _ _ ?_
  clear hK K
  refine wpList_step (fun K hK => ?_)
  go_simp
  refine hK _ _ ?_
  clear hK K
  refine wpList_step (fun K hK => ?_)
  go_simp
  refine hK _ _ ?_
  clear hK K
  refine wpList_step (fun K hK => ?_)
  go_simp
  refine hK _ _ ?_
  clear hK K
  refine wpList_step (fun K hK => ?_)
  go_simp
  refine hK _ _ ?_
  clear hK K
  refine wpList_step (fun K hK => ?_)
  go_simp
  refine hK _ _ ?_
  clear hK K
  obtain ⟨cx, kx, rx, zx⟩ := HS.out.get (g := g12) (M := Xd) (by simp)
  have KX := hide kx
  have RX := hide rx
  have ZX := hide zx
  clear kx rx zx
  refine wpList_load_row_g rfl 27 (.tmp 12) rfl _ rfl 27 cx _ KX.out Try.underlying27 rfl (by rw [ZX.out]; kernel_rfl) ?_
  refine wpList_step (fun K hK => ?_)
  go_simp
  refine hK _ _ ?_
  clear hK K
  refine wpList_step (fun K hK => ?_)
  go_simp
  refine (may_eq _ cx Xd 0 7 2 false rfl _ RX.out (by decide) (by decide)).mono ?_
  rintro e wn ⟨rfl, hb⟩
  have HS' := hide (HS.out.after hb)
  clear HS hb KX RX ZX
  have HS := HS'
  clear HS'
  refine hK _ _ ?_
  clear hK K
  refine wpList_step (fun K hK => ?_)
  go_simp
  refine hK _ _ ?_
  clear hK K
  refine wpList_step (fun K hK => ?_)
  go_simp
  refine hK _ _ ?_
  clear hK K
  refine wpList_step (fun K hK => ?_)
  go_simp
  refine hK _ _ ?_
  clear hK K
  refine wpList_step (fun K hK => ?_)
  go_simp
  refine hK _ _ ?_
  clear hK K
  refine wpList_step (fun K hK => ?_)
  go_simp
  refine hK _ _ ?_
  clear hK K
  refine wpList_step (fun K hK => ?_)
  go_simp
  refine hK _ _ ?_
  clear hK K
  refine wpList_step (fun K hK => ?_)
  go_simp
  refine hK _ _ ?_
  clear hK K
  refine wpList_step (fun K hK => ?_)
  go_simp
  refine hK _ _ ?_
  clear hK K
  refine wpList_step (fun K hK => ?_)
  go_simp
  refine hK _ _ ?_
  clear hK K
  refine wpList_step (fun K hK => ?_)
  go_simp
  refine hK _ _ ?_
  clear hK K
  refine wpList_step (fun K hK => ?_)
  go_simp
  refine hK _ _ ?_
  clear hK K
  refine wpList_step (fun K hK => ?_)
  go_simp
  refine hK _ _ ?_
  clear hK K
  refine wpList_step (fun K hK => ?_)
  go_simp
  refine hK _ _ ?_
  clear hK K
  refine wpList_step (fun K hK => ?_)
  go_simp
  refine hK _ _ ?_
  clear hK K
  refine wpList_step (fun K hK => ?_)
  go_simp
  refine hK _ _ ?_
  clear hK K
  go_wp2_with fail
  go_ret
  exact ⟨rfl, HS.out.1⟩

end Go.Proofs.Ytfdgflhbooaomaa
