/- walk: LineStays -/
import Derived.Test.YtfdgflhbooaomaaPlain
namespace Go.Proofs.Ytfdgflhbooaomaa
open Go.RowKit

set_option maxRecDepth 100000 in
set_option maxHeartbeats 2000000 in
theorem lineStays_any (D : Nat → Prop) (ca oa : Array Value) (x : LineM) (o : OpM) (w : World) (hx : LineR.at_ w D ca.toList x) (ho : OpAt oa o) (h1 : x.ap.length ≤ 9223372036854775807) (h2 : x.re.length ≤ 9223372036854775807) :
    Calls Try.prog 3 #[.agg ca, .agg oa] w fun e w' => e = .returned (.bool true) ∧ Below w.heap.size w w' := by
  have HX := hide hx
  have HO := hide ho
  have hkd := ho.kind
  have B1 := hide h1
  have B2 := hide h2
  clear hx ho h1 h2
  go_enter Try.func3, Try.ntmps3
  go_upto_region 1 with fail
  refine at_code0 (fun W => Ls D w [(w.heap.size + 1), w.heap.size] [(w.heap.size, x)] [((w.heap.size + 1), oa)] W) ?_ ?_
  · exact Ls.boxOp (Ls.boxLine Ls.start (LineR.start HX.out) rfl) oa (by simp)
  intro W hs
  have HS := hide hs
  clear hs HX
  go_cut [20] (fun t W => t = .bool (greatM x || (decide (o.kind < 4) || decide (7 < o.kind))) ∧ Ls D w [(w.heap.size + 1), w.heap.size] [(w.heap.size, x)] [((w.heap.size + 1), oa)] W)
  case first =>
    apply wp_region_lit
    obtain ⟨cx, kx, rx, zx⟩ := HS.out.line (g := w.heap.size) (M := x) (by simp)
    have Kx := hide kx
    have Rx := hide rx
    have Zx := hide zx
    clear kx rx zx
    refine wpList_load_row_g rfl 27 (.tmp 2) rfl _ rfl 27 cx _ Kx.out Try.underlying27 rfl (by rw [Zx.out]; kernel_rfl) ?_
    refine wpList_step (fun K hK => ?_)
    go_simp
    refine (great_arr _ cx x _ Rx.out B1.out B2.out).mono ?_
    rintro e wn ⟨rfl, hb⟩
    have HS' := hide (HS.out.after hb)
    clear HS hb
    have HS := HS'
    clear HS'
    clear Kx Rx Zx
    refine hK _ _ ?_
    clear hK K
    have HE := hide (show greatM x = true ∨ greatM x = false ∧ o.kind < 4 ∨ greatM x = false ∧ ¬ o.kind < 4 ∧ 7 < o.kind ∨ greatM x = false ∧ ¬ o.kind < 4 ∧ ¬ 7 < o.kind from by cases greatM x <;> simp <;> omega)
    obtain ⟨cc, ff⟩ := (HS.out.op (g := (w.heap.size + 1)) (oa := oa) (by simp)).rules
    rcases HE.out with q1 | ⟨q1, q2⟩ | ⟨q1, q2, q3⟩ | ⟨q1, q2, q3⟩
    all_goals clear HE
    · refine wpList_step (fun K hK => ?_)
      go_simp
      refine hK _ _ ?_
      clear hK K
      refine wpList_step (fun K hK => ?_)
      go_simp
      refine hK _ _ ?_
      clear hK K
      refine wpList_step (fun K hK => ?_)
      go_simp
      refine hK _ _ ?_
      clear hK K
      refine wpList_step (fun K hK => ?_)
      go_simp
      refine hK _ _ ?_
      clear hK K
      refine wpList_step (fun K hK => ?_)
      go_simp
      refine hK _ _ ?_
      clear hK K
      refine wpList_step (fun K hK => ?_)
      go_simp
      refine hK _ _ ?_
      clear hK K
      refine wpList_step (fun K hK => ?_)
      go_simp
      refine hK _ _ ?_
      clear hK K
      refine wpList_step (fun K hK => ?_)
      go_simp
      refine hK _ _ ?_
      clear hK K
      refine wpList_step (fun K hK => ?_)
      go_simp
      refine hK _ _ ?_
      clear hK K
      refine wpList_step (fun K hK => ?_)
      go_simp
      refine hK _ _ ?_
      clear hK K
      go_wp2_with fail
      go_meet
      exact ⟨by simp [q1], HS.out⟩
    · have q4 : decide (o.kind < 4) = true := by simpa using q2
      refine wpList_step (fun K hK => ?_)
      go_simp
      refine hK _ _ ?_
      clear hK K
      refine wpList_step (fun K hK => ?_)
      go_simp
      refine hK _ _ ?_
      clear hK K
      refine wpList_step (fun K hK => ?_)
      go_simp
      refine hK _ _ ?_
      clear hK K
      refine wpList_step (fun K hK => ?_)
      go_simp
      refine hK _ _ ?_
      clear hK K
      refine wpList_step (fun K hK => ?_)
      go_simp
      refine hK _ _ ?_
      clear hK K
      refine wpList_step (fun K hK => ?_)
      go_simp
      refine hK _ _ ?_
      clear hK K
      refine wpList_step (fun K hK => ?_)
      go_simp
      refine hK _ _ ?_
      clear hK K
      refine wpList_step (fun K hK => ?_)
      go_simp
      refine hK _ _ ?_
      clear hK K
      refine wpList_step (fun K hK => ?_)
      go_simp
      refine hK _ _ ?_
      clear hK K
      refine wpList_step (fun K hK => ?_)
      go_simp
      refine hK _ _ ?_
      clear hK K
      go_wp2_with fail
      go_meet
      exact ⟨by simp [q1, q4], HS.out⟩
    · have q4 : decide (o.kind < 4) = false := by simpa using q2
      have q5 : decide (7 < o.kind) = true := by simpa using q3
      refine wpList_step (fun K hK => ?_)
      go_simp
      refine hK _ _ ?_
      clear hK K
      refine wpList_step (fun K hK => ?_)
      go_simp
      refine hK _ _ ?_
      clear hK K
      refine wpList_step (fun K hK => ?_)
      go_simp
      refine hK _ _ ?_
      clear hK K
      refine wpList_step (fun K hK => ?_)
      go_simp
      refine hK _ _ ?_
      clear hK K
      refine wpList_step (fun K hK => ?_)
      go_simp
      refine hK _ _ ?_
      clear hK K
      refine wpList_step (fun K hK => ?_)
      go_simp
      refine hK _ _ ?_
      clear hK K
      refine wpList_step (fun K hK => ?_)
      go_simp
      refine hK _ _ ?_
      clear hK K
      refine wpList_step (fun K hK => ?_)
      go_simp
      refine hK _ _ ?_
      clear hK K
      refine wpList_step (fun K hK => ?_)
      go_simp
      refine hK _ _ ?_
      clear hK K
      refine wpList_step (fun K hK => ?_)
      go_simp
      refine hK _ _ ?_
      clear hK K
      go_wp2_with fail
      go_meet
      exact ⟨by simp [q1, q4, q5], HS.out⟩
    · have q4 : decide (o.kind < 4) = false := by simpa using q2
      have q5 : decide (7 < o.kind) = false := by simpa using q3
      refine wpList_step (fun K hK => ?_)
      go_simp
      refine hK _ _ ?_
      clear hK K
      refine wpList_step (fun K hK => ?_)
      go_simp
      refine hK _ _ ?_
      clear hK K
      refine wpList_step (fun K hK => ?_)
      go_simp
      refine hK _ _ ?_
      clear hK K
      refine wpList_step (fun K hK => ?_)
      go_simp
      refine hK _ _ ?_
      clear hK K
      refine wpList_step (fun K hK => ?_)
      go_simp
      refine hK _ _ ?_
      clear hK K
      refine wpList_step (fun K hK => ?_)
      go_simp
      refine hK _ _ ?_
      clear hK K
      refine wpList_step (fun K hK => ?_)
      go_simp
      refine hK _ _ ?_
      clear hK K
      refine wpList_step (fun K hK => ?_)
      go_simp
      refine hK _ _ ?_
      clear hK K
      refine wpList_step (fun K hK => ?_)
      go_simp
      refine hK _ _ ?_
      clear hK K
      refine wpList_step (fun K hK => ?_)
      go_simp
      refine hK _ _ ?_
      clear hK K
      go_wp2_with fail
      go_meet
      exact ⟨by simp [q1, q4, q5], HS.out⟩
  obtain ⟨rfl, hs⟩ := hcut
  clear HS
  have HS := hide hs
  clear hs
  generalize hq : (greatM x || (decide (o.kind < 4) || decide (7 < o.kind))) = q
  have HG := hide hq
  clear hq
  cases q with
  | true =>
    go_upto_region 2 with fail
    apply wp_region_lit
    refine wpList_step (fun K hK => ?_)
    go_simp
    refine (head_any _).mono ?_
    rintro e wn ⟨rfl, hb⟩
    have HS' := hide (HS.out.after hb)
    clear HS hb
    have HS := HS'
    clear HS'
    refine hK _ _ ?_
    clear hK K
    refine wpList_step (fun K hK => ?_)
    go_simp
    refine hK _ _ ?_
    clear hK K
    go_wp2_with fail
    go_ret
    exact ⟨rfl, HS.out.1⟩
  | false =>
  have HP := hide (show greatM x = false ∧ 4 ≤ o.kind ∧ o.kind ≤ 7 from by have hg' := HG.out; simp at hg'; refine ⟨hg'.1, ?_, ?_⟩ <;> omega)
  have HQ := hide (great_no HP.out.1)
  obtain ⟨M, er, hA⟩ : ∃ M er, actM x o = (M, er) := ⟨_, _, rfl⟩
  have HA := hide hA
  have HL := hide (show M.ap.length ≤ x.ap.length + 1 ∧ M.re.length ≤ x.re.length + 1 from by have := act_len x o; rw [hA] at this; exact this)
  have HR := hide (show rising M.ap = true ∧ rising M.re = true from by have := act_rises (o := o) HQ.out.2.2.1 HQ.out.2.2.2; rw [hA] at this; exact this)
  have HE := hide (show er = 0 ∧ x.st = 0 ∨ x = M ∧ er = 278 from by
    rcases act_err (x := x) HP.out.2.1 HP.out.2.2 with h | h
    · rw [hA] at h; exact .inl h
    · rw [hA] at h; injection h with h1 h2; exact .inr ⟨h1.symm, h2⟩)
  clear hA
  go_upto_region 3 with fail
  apply wp_region_lit
  obtain ⟨cx, kx, rx, zx⟩ := HS.out.line (g := w.heap.size) (M := x) (by simp)
  have Kx := hide kx
  have Rx := hide rx
  have Zx := hide zx
  clear kx rx zx
  refine wpList_load_row_g rfl 27 (.tmp 2) rfl _ rfl 27 cx _ Kx.out Try.underlying27 rfl (by rw [Zx.out]; kernel_rfl) ?_
  refine wpList_load_row_g rfl 33 (.tmp 3) rfl _ rfl 33 oa _ (HS.out.op (g := (w.heap.size + 1)) (oa := oa) (by simp)) Try.underlying33 rfl (by rw [HO.out.size]; kernel_rfl) ?_
  refine wpList_step (fun K hK => ?_)
  go_simp
  refine (act_eq _ cx oa (x) o (M) (er) (HA.out) _ Rx.out HO.out (by have := HQ.out.1; omega) (by have := HQ.out.2.1; omega) HQ.out.2.2.1 HQ.out.2.2.2).mono ?_
  rintro e wn ⟨ca3, rfl, hr3, hz3, h13, hb⟩
  have HR3 := hide (HS.out.called hr3)
  have HZ3 := hide hz3
  have H13 := hide h13
  have HS' := hide (HS.out.after hb)
  clear HS hb
  have HS := HS'
  clear HS'
  clear hr3 hz3 h13
  clear Kx Rx Zx
  refine hK _ _ ?_
  clear hK K
  refine wpList_step (fun K hK => ?_)
  go_simp
  refine hK _ _ ?_
  clear hK K
  refine wpList_step (fun K hK => ?_)
  go_simp
  refine hK _ _ ?_
  clear hK K
  refine wpList_step (fun K hK => ?_)
  go_simp
  refine hK _ _ ?_
  clear hK K
  refine wpList_step (fun K hK => ?_)
  go_simp
  refine hK _ _ ?_
  clear hK K
  refine wpList_store_row rfl 27 (.tmp 5) (.tmp 26) rfl wn.heap.size ca3 rfl rfl 27 _ (heap_alloc_new _ _) (by rw [HZ3.out]; kernel_rfl) (by rw [HZ3.out]; rfl) (by rw [Array.all_eq_true_iff_forall_mem]; intro u hu; exact H13.out u (by simpa using hu)) ?_
  refine wpList_step (fun K hK => ?_)
  go_simp
  refine hK _ _ ?_
  clear hK K
  go_upto_region 4 with fail
  refine at_code0 (fun W => Ls D w (wn.heap.size :: [(w.heap.size + 1), w.heap.size]) ((wn.heap.size, M) :: [(w.heap.size, x)]) [((w.heap.size + 1), oa)] W) ?_ ?_
  · exact Ls.newline HS.out HR3.out
  intro W1 hs
  clear HS HR3 HZ3 H13
  generalize wn.heap.size = g5 at hs ⊢
  have HS := hide hs
  clear hs
  rcases HE.out with ⟨he, hst⟩ | ⟨hxm, he⟩
  · clear HE
    have q1 : (x.st != 0) = false := by simp [hst]
    clear hst
    subst he
    apply wp_region_lit
    obtain ⟨cx, kx, rx, zx⟩ := HS.out.line (g := w.heap.size) (M := x) (by simp)
    obtain ⟨_, _, _, _, hz0, _, _, _, _, _, _, _, _, _, f9, _, _⟩ := LineR.parts rx
    clear hz0
    obtain ⟨ccx, ffx⟩ := kx.rules
    clear kx rx zx
    refine wpList_step (fun K hK => ?_)
    go_simp
    refine hK _ _ ?_
    clear hK K
    refine wpList_step (fun K hK => ?_)
    go_simp
    refine hK _ _ ?_
    clear hK K
    refine wpList_step (fun K hK => ?_)
    go_simp
    refine hK _ _ ?_
    clear hK K
    refine wpList_step (fun K hK => ?_)
    go_simp
    refine hK _ _ ?_
    clear hK K
    refine wpList_step (fun K hK => ?_)
    go_simp
    refine hK _ _ ?_
    clear hK K
    refine wpList_step (fun K hK => ?_)
    go_simp
    refine hK _ _ ?_
    clear hK K
    refine wpList_step (fun K hK => ?_)
    go_simp
    refine hK _ _ ?_
    clear hK K
    refine wpList_step (fun K hK => ?_)
    go_simp
    refine hK _ _ ?_
    clear hK K
    refine wpList_step (fun K hK => ?_)
    go_simp
    refine hK _ _ ?_
    clear hK K
    refine wpList_step (fun K hK => ?_)
    go_simp
    refine hK _ _ ?_
    clear hK K
    refine wpList_step (fun K hK => ?_)
    go_simp
    refine hK _ _ ?_
    clear hK K
    refine wpList_step (fun K hK => ?_)
    go_simp
    refine hK _ _ ?_
    clear hK K
    refine wpList_step (fun K hK => ?_)
    go_simp
    refine hK _ _ ?_
    clear hK K
    refine wpList_step (fun K hK => ?_)
    go_simp
    refine hK _ _ ?_
    clear hK K
    refine wpList_step (fun K hK => ?_)
    go_simp
    refine hK _ _ ?_
    clear hK K
    refine wpList_step (fun K hK => ?_)
    go_simp
    refine hK _ _ ?_
    clear hK K
    refine wpList_step (fun K hK => ?_)
    go_simp
    refine hK _ _ ?_
    clear hK K
    clear ccx ffx f9
    go_upto_region 6 with fail
    apply wp_region_lit
    obtain ⟨cc, ff⟩ := (HS.out.op (g := (w.heap.size + 1)) (oa := oa) (by simp)).rules
    by_cases h6 : o.kind < 6
    · have q2 : decide (o.kind < 6) = true := by simpa using h6
      clear h6
      refine wpList_step (fun K hK => ?_)
      go_simp
      refine hK _ _ ?_
      clear hK K
      refine wpList_step (fun K hK => ?_)
      go_simp
      refine hK _ _ ?_
      clear hK K
      refine wpList_step (fun K hK => ?_)
      go_simp
      refine hK _ _ ?_
      clear hK K
      refine wpList_step (fun K hK => ?_)
      go_simp
      refine hK _ _ ?_
      clear hK K
      refine wpList_step (fun K hK => ?_)
      go_simp
      refine hK _ _ ?_
      clear hK K
      refine wpList_step (fun K hK => ?_)
      go_simp
      refine hK _ _ ?_
      clear hK K
      refine wpList_step (fun K hK => ?_)
      go_simp
      refine hK _ _ ?_
      clear hK K
      go_upto_region 7 with fail
      apply wp_region_lit
      refine wpList_step (fun K hK => ?_)
      go_simp
      refine (head_any _).mono ?_
      rintro e wn ⟨rfl, hb⟩
      have HS' := hide (HS.out.after hb)
      clear HS hb
      have HS := HS'
      clear HS'
      refine hK _ _ ?_
      clear hK K
      refine wpList_step (fun K hK => ?_)
      go_simp
      refine hK _ _ ?_
      clear hK K
      go_wp2_with fail
      go_ret
      exact ⟨rfl, HS.out.1⟩
    · have q2 : decide (o.kind < 6) = false := by simpa using h6
      have HV := hide (act_again (x := x) (o := o) (by omega) HP.out.2.2 HQ.out.2.2.1 HQ.out.2.2.2 (by rw [HA.out]))
      have HV1 := hide (show actM M o = (M, 0) from by have := HV.out.1; rw [HA.out] at this; exact this)
      have q3 : (M.vr == x.vr && M.vn == x.vn) = true := by have h1 := HV.out.2.1; have h2 := HV.out.2.2; rw [HA.out] at h1 h2; simp at h1 h2; simp [h1, h2]
      clear h6 HV
      refine wpList_step (fun K hK => ?_)
      go_simp
      refine hK _ _ ?_
      clear hK K
      refine wpList_step (fun K hK => ?_)
      go_simp
      refine hK _ _ ?_
      clear hK K
      refine wpList_step (fun K hK => ?_)
      go_simp
      refine hK _ _ ?_
      clear hK K
      refine wpList_step (fun K hK => ?_)
      go_simp
      refine hK _ _ ?_
      clear hK K
      refine wpList_step (fun K hK => ?_)
      go_simp
      refine hK _ _ ?_
      clear hK K
      refine wpList_step (fun K hK => ?_)
      go_simp
      refine hK _ _ ?_
      clear hK K
      refine wpList_step (fun K hK => ?_)
      go_simp
      refine hK _ _ ?_
      clear hK K
      clear cc ff
      go_upto_region 8 with fail
      apply wp_region_lit
      obtain ⟨cx, kx, rx, zx⟩ := HS.out.line (g := g5) (M := M) (by simp)
      have Kx := hide kx
      have Rx := hide rx
      have Zx := hide zx
      clear kx rx zx
      refine wpList_load_row_g rfl 27 (.tmp 5) rfl _ rfl 27 cx _ Kx.out Try.underlying27 rfl (by rw [Zx.out]; kernel_rfl) ?_
      refine wpList_load_row_g rfl 33 (.tmp 3) rfl _ rfl 33 oa _ (HS.out.op (g := (w.heap.size + 1)) (oa := oa) (by simp)) Try.underlying33 rfl (by rw [HO.out.size]; kernel_rfl) ?_
      refine wpList_step (fun K hK => ?_)
      go_simp
      refine (act_eq _ cx oa (M) o (M) (0) (HV1.out) _ Rx.out HO.out (by have := HQ.out.1; have := HL.out.1; omega) (by have := HQ.out.2.1; have := HL.out.2; omega) HR.out.1 HR.out.2).mono ?_
      rintro e wn ⟨ca3, rfl, hr3, hz3, h13, hb⟩
      have HR3 := hide (HS.out.called hr3)
      have HZ3 := hide hz3
      have H13 := hide h13
      have HS' := hide (HS.out.after hb)
      clear HS hb
      have HS := HS'
      clear HS'
      clear hr3 hz3 h13
      clear Kx Rx Zx
      refine hK _ _ ?_
      clear hK K
      refine wpList_step (fun K hK => ?_)
      go_simp
      refine hK _ _ ?_
      clear hK K
      refine wpList_step (fun K hK => ?_)
      go_simp
      refine hK _ _ ?_
      clear hK K
      refine wpList_step (fun K hK => ?_)
      go_simp
      refine hK _ _ ?_
      clear hK K
      refine wpList_step (fun K hK => ?_)
      go_simp
      refine hK _ _ ?_
      clear hK K
      refine wpList_store_row rfl 27 (.tmp 7) (.tmp 57) rfl wn.heap.size ca3 rfl rfl 27 _ (heap_alloc_new _ _) (by rw [HZ3.out]; kernel_rfl) (by rw [HZ3.out]; rfl) (by rw [Array.all_eq_true_iff_forall_mem]; intro u hu; exact H13.out u (by simpa using hu)) ?_
      refine wpList_step (fun K hK => ?_)
      go_simp
      refine hK _ _ ?_
      clear hK K
      go_upto_region 9 with fail
      refine at_code0 (fun W => Ls D w (wn.heap.size :: g5 :: [(w.heap.size + 1), w.heap.size]) ((wn.heap.size, M) :: (g5, M) :: [(w.heap.size, x)]) [((w.heap.size + 1), oa)] W) ?_ ?_
      · exact Ls.newline HS.out HR3.out
      intro W2 hs
      clear HS HR3 HZ3 H13
      generalize wn.heap.size = g7 at hs ⊢
      have HS := hide hs
      clear hs
      apply wp_region_lit
      refine wpList_step (fun K hK => ?_)
      go_simp
      refine hK _ _ ?_
      clear hK K
      refine wpList_step (fun K hK => ?_)
      go_simp
      refine hK _ _ ?_
      clear hK K
      refine wpList_step (fun K hK => ?_)
      go_simp
      refine hK _ _ ?_
      clear hK K
      obtain ⟨cx, kx, rx, zx⟩ := HS.out.line (g := g5) (M := M) (by simp)
      have Kx := hide kx
      have Rx := hide rx
      have Zx := hide zx
      clear kx rx zx
      refine wpList_load_row_g rfl 27 (.tmp 5) rfl _ rfl 27 cx _ Kx.out Try.underlying27 rfl (by rw [Zx.out]; kernel_rfl) ?_
      obtain ⟨cy, ky, ry, zy⟩ := HS.out.line (g := g7) (M := M) (by simp)
      have Ky := hide ky
      have Ry := hide ry
      have Zy := hide zy
      clear ky ry zy
      refine wpList_load_row_g rfl 27 (.tmp 7) rfl _ rfl 27 cy _ Ky.out Try.underlying27 rfl (by rw [Zy.out]; kernel_rfl) ?_
      refine wpList_step (fun K hK => ?_)
      go_simp
      refine (same_eq _ _ cx cy M M true (sameM_refl _) _ Rx.out Ry.out (by have := HQ.out.1; have := HL.out.1; omega) (by have := HQ.out.2.1; have := HL.out.2; omega) (by have := HQ.out.1; have := HL.out.1; omega) (by have := HQ.out.2.1; have := HL.out.2; omega)).mono ?_
      rintro e wn ⟨rfl, hb⟩
      have HS' := hide (HS.out.after hb)
      clear HS hb
      have HS := HS'
      clear HS'
      clear Kx Rx Zx Ky Ry Zy
      refine hK _ _ ?_
      clear hK K
      refine wpList_step (fun K hK => ?_)
      go_simp
      refine hK _ _ ?_
      clear hK K
      refine wpList_step (fun K hK => ?_)
      go_simp
      refine hK _ _ ?_
      clear hK K
      obtain ⟨cx, kx, rx, zx⟩ := HS.out.line (g := g5) (M := M) (by simp)
      obtain ⟨_, _, _, _, hz0, _, _, _, _, _, m5, m6, _, _, _, _, _⟩ := LineR.parts rx
      clear hz0
      obtain ⟨ccx, ffx⟩ := kx.rules
      clear kx rx zx
      obtain ⟨cy, ky, ry, zy⟩ := HS.out.line (g := w.heap.size) (M := x) (by simp)
      obtain ⟨_, _, _, _, hz0, _, _, _, _, _, x5, x6, _, _, _, _, _⟩ := LineR.parts ry
      clear hz0
      obtain ⟨ccy, ffy⟩ := ky.rules
      clear ky ry zy
      have hde := dot_eql
      refine wpList_step (fun K hK => ?_)
      go_simp
      refine hK _ _ ?_
      clear hK K
      refine wpList_step (fun K hK => ?_)
      go_simp
      refine hK _ _ ?_
      clear hK K
      refine wpList_step (fun K hK => ?_)
      go_simp
      refine hK _ _ ?_
      clear hK K
      refine wpList_step (fun K hK => ?_)
      go_simp
      refine hK _ _ ?_
      clear hK K
      refine wpList_step (fun K hK => ?_)
      go_simp
      refine hK _ _ ?_
      clear hK K
      refine wpList_step (fun K hK => ?_)
      go_simp
      refine hK _ _ ?_
      clear hK K
      refine wpList_step (fun K hK => ?_)
      go_simp
      refine hK _ _ ?_
      clear hK K
      clear hde ccx ffx ccy ffy m5 m6 x5 x6
      refine wpList_step (fun K hK => ?_)
      go_simp
      refine (head_any _).mono ?_
      rintro e wn ⟨rfl, hb⟩
      have HS' := hide (HS.out.after hb)
      clear HS hb
      have HS := HS'
      clear HS'
      refine hK _ _ ?_
      clear hK K
      refine wpList_step (fun K hK => ?_)
      go_simp
      refine hK _ _ ?_
      clear hK K
      refine wpList_step (fun K hK => ?_)
      go_simp
      refine hK _ _ ?_
      clear hK K
      go_wp2_with fail
      go_ret
      exact ⟨rfl, HS.out.1⟩
  · subst hxm
    subst he
    clear HE
    apply wp_region_lit
    obtain ⟨cx, kx, rx, zx⟩ := HS.out.line (g := w.heap.size) (M := x) (by simp)
    obtain ⟨_, _, _, _, hz0, _, _, _, _, _, _, _, _, _, f9, _, _⟩ := LineR.parts rx
    clear hz0
    obtain ⟨ccx, ffx⟩ := kx.rules
    clear kx rx zx
    cases q1 : (x.st != 0) with
    | true =>
      refine wpList_step (fun K hK => ?_)
      go_simp
      refine hK _ _ ?_
      clear hK K
      refine wpList_step (fun K hK => ?_)
      go_simp
      refine hK _ _ ?_
      clear hK K
      refine wpList_step (fun K hK => ?_)
      go_simp
      refine hK _ _ ?_
      clear hK K
      refine wpList_step (fun K hK => ?_)
      go_simp
      refine hK _ _ ?_
      clear hK K
      refine wpList_step (fun K hK => ?_)
      go_simp
      refine hK _ _ ?_
      clear hK K
      refine wpList_step (fun K hK => ?_)
      go_simp
      refine hK _ _ ?_
      clear hK K
      refine wpList_step (fun K hK => ?_)
      go_simp
      refine hK _ _ ?_
      clear hK K
      refine wpList_step (fun K hK => ?_)
      go_simp
      refine hK _ _ ?_
      clear hK K
      refine wpList_step (fun K hK => ?_)
      go_simp
      refine hK _ _ ?_
      clear hK K
      refine wpList_step (fun K hK => ?_)
      go_simp
      refine hK _ _ ?_
      clear hK K
      refine wpList_step (fun K hK => ?_)
      go_simp
      refine hK _ _ ?_
      clear hK K
      clear ccx ffx f9
      obtain ⟨cx, kx, rx, zx⟩ := HS.out.line (g := g5) (M := x) (by simp)
      have Kx := hide kx
      have Rx := hide rx
      have Zx := hide zx
      clear kx rx zx
      refine wpList_load_row_g rfl 27 (.tmp 5) rfl _ rfl 27 cx _ Kx.out Try.underlying27 rfl (by rw [Zx.out]; kernel_rfl) ?_
      obtain ⟨cy, ky, ry, zy⟩ := HS.out.line (g := w.heap.size) (M := x) (by simp)
      have Ky := hide ky
      have Ry := hide ry
      have Zy := hide zy
      clear ky ry zy
      refine wpList_load_row_g rfl 27 (.tmp 2) rfl _ rfl 27 cy _ Ky.out Try.underlying27 rfl (by rw [Zy.out]; kernel_rfl) ?_
      refine wpList_step (fun K hK => ?_)
      go_simp
      refine (same_eq _ _ cx cy x x true (sameM_refl _) _ Rx.out Ry.out (by have := HQ.out.1; omega) (by have := HQ.out.2.1; omega) (by have := HQ.out.1; omega) (by have := HQ.out.2.1; omega)).mono ?_
      rintro e wn ⟨rfl, hb⟩
      have HS' := hide (HS.out.after hb)
      clear HS hb
      have HS := HS'
      clear HS'
      clear Kx Rx Zx Ky Ry Zy
      refine hK _ _ ?_
      clear hK K
      refine wpList_step (fun K hK => ?_)
      go_simp
      refine hK _ _ ?_
      clear hK K
      refine wpList_step (fun K hK => ?_)
      go_simp
      refine hK _ _ ?_
      clear hK K
      refine wpList_step (fun K hK => ?_)
      go_simp
      refine hK _ _ ?_
      clear hK K
      go_upto_region 6 with fail
      apply wp_region_lit
      refine wpList_step (fun K hK => ?_)
      go_simp
      refine hK _ _ ?_
      clear hK K
      refine wpList_step (fun K hK => ?_)
      go_simp
      refine hK _ _ ?_
      clear hK K
      refine wpList_step (fun K hK => ?_)
      go_simp
      refine hK _ _ ?_
      clear hK K
      refine wpList_step (fun K hK => ?_)
      go_simp
      refine hK _ _ ?_
      clear hK K
      refine wpList_step (fun K hK => ?_)
      go_simp
      refine hK _ _ ?_
      clear hK K
      refine wpList_step (fun K hK => ?_)
      go_simp
      refine hK _ _ ?_
      clear hK K
      refine wpList_step (fun K hK => ?_)
      go_simp
      refine hK _ _ ?_
      clear hK K
      go_upto_region 7 with fail
      apply wp_region_lit
      refine wpList_step (fun K hK => ?_)
      go_simp
      refine (head_any _).mono ?_
      rintro e wn ⟨rfl, hb⟩
      have HS' := hide (HS.out.after hb)
      clear HS hb
      have HS := HS'
      clear HS'
      refine hK _ _ ?_
      clear hK K
      refine wpList_step (fun K hK => ?_)
      go_simp
      refine hK _ _ ?_
      clear hK K
      go_wp2_with fail
      go_ret
      exact ⟨rfl, HS.out.1⟩
    | false =>
      refine wpList_step (fun K hK => ?_)
      go_simp
      refine hK _ _ ?_
      clear hK K
      refine wpList_step (fun K hK => ?_)
      go_simp
      refine hK _ _ ?_
      clear hK K
      refine wpList_step (fun K hK => ?_)
      go_simp
      refine hK _ _ ?_
      clear hK K
      refine wpList_step (fun K hK => ?_)
      go_simp
      refine hK _ _ ?_
      clear hK K
      refine wpList_step (fun K hK => ?_)
      go_simp
      refine hK _ _ ?_
      clear hK K
      refine wpList_step (fun K hK => ?_)
      go_simp
      refine hK _ _ ?_
      clear hK K
      refine wpList_step (fun K hK => ?_)
      go_simp
      refine hK _ _ ?_
      clear hK K
      refine wpList_step (fun K hK => ?_)
      go_simp
      refine hK _ _ ?_
      clear hK K
      refine wpList_step (fun K hK => ?_)
      go_simp
      refine hK _ _ ?_
      clear hK K
      refine wpList_step (fun K hK => ?_)
      go_simp
      refine hK _ _ ?_
      clear hK K
      refine wpList_step (fun K hK => ?_)
      go_simp
      refine hK _ _ ?_
      clear hK K
      clear ccx ffx f9
      obtain ⟨cx, kx, rx, zx⟩ := HS.out.line (g := g5) (M := x) (by simp)
      have Kx := hide kx
      have Rx := hide rx
      have Zx := hide zx
      clear kx rx zx
      refine wpList_load_row_g rfl 27 (.tmp 5) rfl _ rfl 27 cx _ Kx.out Try.underlying27 rfl (by rw [Zx.out]; kernel_rfl) ?_
      obtain ⟨cy, ky, ry, zy⟩ := HS.out.line (g := w.heap.size) (M := x) (by simp)
      have Ky := hide ky
      have Ry := hide ry
      have Zy := hide zy
      clear ky ry zy
      refine wpList_load_row_g rfl 27 (.tmp 2) rfl _ rfl 27 cy _ Ky.out Try.underlying27 rfl (by rw [Zy.out]; kernel_rfl) ?_
      refine wpList_step (fun K hK => ?_)
      go_simp
      refine (same_eq _ _ cx cy x x true (sameM_refl _) _ Rx.out Ry.out (by have := HQ.out.1; omega) (by have := HQ.out.2.1; omega) (by have := HQ.out.1; omega) (by have := HQ.out.2.1; omega)).mono ?_
      rintro e wn ⟨rfl, hb⟩
      have HS' := hide (HS.out.after hb)
      clear HS hb
      have HS := HS'
      clear HS'
      clear Kx Rx Zx Ky Ry Zy
      refine hK _ _ ?_
      clear hK K
      refine wpList_step (fun K hK => ?_)
      go_simp
      refine hK _ _ ?_
      clear hK K
      refine wpList_step (fun K hK => ?_)
      go_simp
      refine hK _ _ ?_
      clear hK K
      refine wpList_step (fun K hK => ?_)
      go_simp
      refine hK _ _ ?_
      clear hK K
      go_upto_region 6 with fail
      apply wp_region_lit
      refine wpList_step (fun K hK => ?_)
      go_simp
      refine hK _ _ ?_
      clear hK K
      refine wpList_step (fun K hK => ?_)
      go_simp
      refine hK _ _ ?_
      clear hK K
      refine wpList_step (fun K hK => ?_)
      go_simp
      refine hK _ _ ?_
      clear hK K
      refine wpList_step (fun K hK => ?_)
      go_simp
      refine hK _ _ ?_
      clear hK K
      refine wpList_step (fun K hK => ?_)
      go_simp
      refine hK _ _ ?_
      clear hK K
      refine wpList_step (fun K hK => ?_)
      go_simp
      refine hK _ _ ?_
      clear hK K
      refine wpList_step (fun K hK => ?_)
      go_simp
      refine hK _ _ ?_
      clear hK K
      go_upto_region 7 with fail
      apply wp_region_lit
      refine wpList_step (fun K hK => ?_)
      go_simp
      refine (head_any _).mono ?_
      rintro e wn ⟨rfl, hb⟩
      have HS' := hide (HS.out.after hb)
      clear HS hb
      have HS := HS'
      clear HS'
      refine hK _ _ ?_
      clear hK K
      refine wpList_step (fun K hK => ?_)
      go_simp
      refine hK _ _ ?_
      clear hK K
      go_wp2_with fail
      go_ret
      exact ⟨rfl, HS.out.1⟩

end Go.Proofs.Ytfdgflhbooaomaa
