/- walks: the reference's 'with' -/
import Derived.Test.YtfdgflhbooaomaaLine2
namespace Go.Proofs.Ytfdgflhbooaomaa
open Go.RowKit

/-- a rising row with one more, once -/
def ins (l : List Int) (x : Int) : List Int := if l[lb l x]? = some x then l else l.take (lb l x) ++ x :: l.drop (lb l x)

theorem ints_cut {k : IntKind} {w : World} {D : Nat → Prop} {ad : Addr} {l : List Int} {m n i : Nat} (h : Reads w D 1 (some ad) m (l.map (Value.int k))) (e : n = m) (hi : i < n) : Reads w D 1 (some (ad.add i)) (n - i) ((l.drop i).map (Value.int k)) := by
  subst e
  have := h.cut (k := i) (cap := n) (by omega) (Nat.le_refl _)
  rw [if_neg (by omega)] at this
  simpa [List.map_drop] using this
theorem take_snoc {l : List Int} {k : Nat} (h : k < l.length) : l.take (k + 1) = l.take k ++ [l.getD k 0] := by
  rw [List.take_succ_eq_append_getElem h, List.getD_eq_getElem?_getD, List.getElem?_eq_getElem h]
  rfl

set_option maxHeartbeats 1000000 in
theorem with_any (D : Nat → Prop) (A : Option Addr) (c : Nat) (l : List Int) (x : Int) (w : World) (hr : Reads w D 1 A l.length (l.map (Value.int .u32))) (hcap : l.length ≤ c) (hn : l.length ≤ 1000000) :
    Calls Try.prog 29 #[.slice A l.length c, .int .u32 x] w fun e w' => ∃ v, e = .returned v ∧ w'.ownsRow w.heap.size 22 1 v (ins l x).length ((ins l x).map (Value.int .u32)) ∧ Below w.heap.size w w' := by
  obtain ⟨i0, hi0, hz0, hz1, hz2⟩ := info_parts u32_info
  have HR := hide hr
  clear hr
  obtain ⟨n, hln⟩ : ∃ n, n = l.length := ⟨_, rfl⟩
  have HN := hide hln
  rw [← hln] at hn hcap
  rw [← hln]
  clear hln
  go_enter Try.func29, Try.ntmps29
  go_wp2_with fail
  go_loopw [5, 6] (fun v u W => ∃ k : Nat, k ≤ n ∧ u = .int .i64 k ∧ Hid (W.ownsRow w.heap.size 22 1 v k ((l.take k).map (Value.int .u32))) ∧ Hid (Below w.heap.size w W) ∧ Hid (∀ j, j < k → l.getD j 0 < x)) (fun _ u _ => (n - intOf u).toNat)
  case atStart => exact ⟨0, Nat.zero_le _, rfl, World.ownsRow_nil _ _ _ _, Below.refl _ _, fun k hk => by omega⟩
  case round =>
    obtain ⟨k, hkn, rfl, hown, hb, h1⟩ := hrel
    have hz : w.heap.size ≤ wr.heap.size := hb.out.size
    by_cases hlt : k < n
    · obtain ⟨ad, rfl, _, hcell⟩ := ints_at ((unhide HR).keep (Holds.below hb.out) (fun _ h _ => h) (by omega)) (i := k) (by rw [← HN.out]; omega)
      obtain ⟨y, hy⟩ : ∃ y, y = l.getD k 0 := ⟨_, rfl⟩
      rw [← hy] at hcell
      have HY := hide hy
      clear hy
      by_cases hyx : y < x
      · go_wp2_with (at_builtin; refine wpList_append_any _ rfl (.tmp 19) (.tmp 24) _ rfl w.heap.size 22 i0 _ 1 4 Try.underlying25 hi0 hz0 hz1 hz2 rfl (by omega) u5 k _ rfl (hown.out.alloc _) _ _ 1 1 _ rfl (Reads.box wr _ _ (size := 1) (n := 1) rfl) (by simp [Value.oneCell']) (by simp only [maxLen]; omega) (by omega) (by simp; omega) ?_; intro v1 w1 hown1 hg1 hat1)
        refine ⟨⟨k + 1, by omega, by go_num, ?_, below_append hb.out hown.out hg1 hz, fun j hj => ?_⟩, by simp [intOf]; omega⟩
        · have e : (l.take (k + 1)).map (Value.int .u32) = (l.take k).map (Value.int .u32) ++ [Value.int .u32 y] := by
            rw [take_snoc (by rw [← HN.out]; exact hlt), List.map_append, HY.out]
            rfl
          rw [e]
          exact hown1
        · by_cases e : j = k
          · subst e
            rw [← HY.out]
            exact hyx
          · exact h1.out j (by omega)
      · have hkb : lb l x = k := lb_unique (by rw [← HN.out]; exact hkn) h1.out (fun _ => by rw [← HY.out]; omega)
        by_cases hex : y = x
        · have hb1 : (y != x) = false := by simp [hex]
          have hi : ins l x = l := by
            unfold ins
            rw [hkb, if_pos]
            rw [List.getElem?_eq_getElem (by rw [← HN.out]; exact hlt), ← hex, HY.out, List.getD_eq_getElem?_getD, List.getElem?_eq_getElem (by rw [← HN.out]; exact hlt)]
            rfl
          have HI := hide hi
          have HB := hide hkb
          clear hi hkb hex
          have hkn' : ((k : Int) == (n : Int)) = false := by simp; omega
          go_wp2_with (at_builtin; refine wpList_append_any _ rfl (.tmp 44) (.tmp 47) _ rfl w.heap.size 22 i0 _ 1 4 Try.underlying25 hi0 hz0 hz1 hz2 rfl (by omega) u5 k _ rfl hown.out D _ _ _ _ rfl (ints_cut ((unhide HR).keep (Holds.below hb.out) (fun _ h _ => h) (by omega)) HN.out hlt) (ints_one _) (by simp only [maxLen]; omega) (by omega) (hz) ?_; intro v2 w2 hown2 hg2 hat2)
          go_ret
          refine ⟨v2, rfl, ?_, below_append0 hb.out hown.out hg2 hz⟩
          rw [HI.out, ← HN.out]
          have e : l.map (Value.int .u32) = (l.take k).map (Value.int .u32) ++ (l.drop k).map (Value.int .u32) := by rw [← List.map_append, List.take_append_drop]
          rw [e, show n = k + (n - k) from by omega]
          exact hown2
        · have hb1 : (y != x) = true := by simp [hex]
          have hi : ins l x = l.take k ++ x :: l.drop k := by
            unfold ins
            rw [hkb, if_neg]
            rw [List.getElem?_eq_getElem (by rw [← HN.out]; exact hlt)]
            intro h
            apply hex
            rw [HY.out, List.getD_eq_getElem?_getD, List.getElem?_eq_getElem (by rw [← HN.out]; exact hlt)]
            simpa using h
          have HI := hide hi
          have HB := hide hkb
          clear hi hkb hex
          have hkn' : ((k : Int) == (n : Int)) = false := by simp; omega
          go_wp2_with (first
            | (at_builtin; refine wpList_append_any _ rfl (.tmp 40) (.tmp 42) _ rfl w.heap.size 22 i0 _ 1 4 Try.underlying25 hi0 hz0 hz1 hz2 rfl (by omega) u5 k _ rfl (hown.out.alloc _) _ _ 1 1 _ rfl (Reads.box wr _ _ (size := 1) (n := 1) rfl) (by simp [Value.oneCell']) (by simp only [maxLen]; omega) (by omega) (by simp; omega) ?_; intro v1 w1 hown1 hg1 hat1; have hb1' := hide (below_append hb.out hown.out hg1 hz); have hz1' : w.heap.size ≤ w1.heap.size := hb1'.out.size; have Ho1 := hide hown1; clear hown1 hg1 hat1)
            | (at_builtin; refine wpList_append_any _ rfl (.tmp 44) (.tmp 47) _ rfl w.heap.size 22 i0 _ 1 4 Try.underlying25 hi0 hz0 hz1 hz2 rfl (by omega) v1 (k + 1) _ rfl Ho1.out D _ _ _ _ rfl (ints_cut ((unhide HR).keep (Holds.below (hb1'.out)) (fun _ h _ => h) (by omega)) HN.out hlt) (ints_one _) (by simp only [maxLen]; omega) (by omega) (hz1') ?_; intro v2 w2 hown2 hg2 hat2))
          go_ret
          refine ⟨v2, rfl, ?_, below_append0 hb1'.out Ho1.out hg2 hz1'⟩
          rw [HI.out]
          have e : (l.take k ++ x :: l.drop k).map (Value.int .u32) = ((l.take k).map (Value.int .u32) ++ [Value.int .u32 x]) ++ (l.drop k).map (Value.int .u32) := by simp
          rw [e, show (l.take k ++ x :: l.drop k).length = k + 1 + (n - k) from by simp; rw [← HN.out]; omega]
          exact hown2
    · obtain rfl : k = n := by omega
      have hkb : lb l x = k := lb_unique (by rw [← HN.out]; exact hkn) h1.out (fun h => by rw [← HN.out] at h; omega)
      have hi : ins l x = l ++ [x] := by
        unfold ins
        rw [hkb, if_neg (by rw [List.getElem?_eq_none (by rw [← HN.out]; omega)]; simp), List.take_of_length_le (by rw [← HN.out]; omega), List.drop_of_length_le (by rw [← HN.out]; omega)]
      have HI := hide hi
      have HB := hide hkb
      clear hi hkb
      have hkn' : ((k : Int) == (k : Int)) = true := by simp
      have fin : ∀ (v2 : Value) (w2 w1 : World) (v1 : Value), w1.ownsRow w.heap.size 22 1 v1 (k + 1) ((l.take k).map (Value.int .u32) ++ [Value.int .u32 x]) → Below w.heap.size w w1 → w2.ownsRow w.heap.size 22 1 v2 (k + 1 + 0) ((l.take k).map (Value.int .u32) ++ [Value.int .u32 x] ++ []) → w1.grownBy w2 v1.ownBlock → w2.ownsRow w.heap.size 22 1 v2 (ins l x).length ((ins l x).map (Value.int .u32)) ∧ Below w.heap.size w w2 := by
        intro v2 w2 w1 v1 ho1 hb1 ho2 hg2
        refine ⟨?_, below_append0 hb1 ho1 hg2 hb1.size⟩
        rw [HI.out, show (l ++ [x]).length = k + 1 + 0 from by simp; exact HN.out.symm]
        rw [List.append_nil, List.take_of_length_le (by rw [← HN.out]; exact Nat.le_refl _)] at ho2
        simpa using ho2
      have FIN := hide fin
      clear fin
      rcases A with _ | ad
      · by_cases hck : k = c
        · subst hck
          go_wp2_with (first
            | (at_builtin; refine wpList_append_any _ rfl (.tmp 40) (.tmp 42) _ rfl w.heap.size 22 i0 _ 1 4 Try.underlying25 hi0 hz0 hz1 hz2 rfl (by omega) u5 k _ rfl (hown.out.alloc _) _ _ 1 1 _ rfl (Reads.box wr _ _ (size := 1) (n := 1) rfl) (by simp [Value.oneCell']) (by simp only [maxLen]; omega) (by omega) (by simp; omega) ?_; intro v1 w1 hown1 hg1 hat1; have hb1' := hide (below_append hb.out hown.out hg1 hz); have hz1' : w.heap.size ≤ w1.heap.size := hb1'.out.size; have Ho1 := hide hown1; clear hown1 hg1 hat1)
            | (at_builtin; refine wpList_append_any _ rfl (.tmp 44) (.tmp 47) _ rfl w.heap.size 22 i0 _ 1 4 Try.underlying25 hi0 hz0 hz1 hz2 rfl (by omega) v1 (k + 1) _ rfl Ho1.out D _ 0 _ [] rfl Reads.none_ (by simp) (by simp only [maxLen]; omega) (by omega) hz1' ?_; intro v2 w2 hown2 hg2 hat2))
          go_ret
          exact ⟨v2, rfl, FIN.out _ _ _ _ Ho1.out hb1'.out hown2 hg2⟩
        · go_wp2_with (first
            | (at_builtin; refine wpList_append_any _ rfl (.tmp 40) (.tmp 42) _ rfl w.heap.size 22 i0 _ 1 4 Try.underlying25 hi0 hz0 hz1 hz2 rfl (by omega) u5 k _ rfl (hown.out.alloc _) _ _ 1 1 _ rfl (Reads.box wr _ _ (size := 1) (n := 1) rfl) (by simp [Value.oneCell']) (by simp only [maxLen]; omega) (by omega) (by simp; omega) ?_; intro v1 w1 hown1 hg1 hat1; have hb1' := hide (below_append hb.out hown.out hg1 hz); have hz1' : w.heap.size ≤ w1.heap.size := hb1'.out.size; have Ho1 := hide hown1; clear hown1 hg1 hat1)
            | (at_builtin; refine wpList_append_any _ rfl (.tmp 44) (.tmp 47) _ rfl w.heap.size 22 i0 _ 1 4 Try.underlying25 hi0 hz0 hz1 hz2 rfl (by omega) v1 (k + 1) _ rfl Ho1.out D _ 0 _ [] rfl Reads.none_ (by simp) (by simp only [maxLen]; omega) (by omega) hz1' ?_; intro v2 w2 hown2 hg2 hat2))
          go_ret
          exact ⟨v2, rfl, FIN.out _ _ _ _ Ho1.out hb1'.out hown2 hg2⟩
      · by_cases hck : k = c
        · subst hck
          go_wp2_with (first
            | (at_builtin; refine wpList_append_any _ rfl (.tmp 40) (.tmp 42) _ rfl w.heap.size 22 i0 _ 1 4 Try.underlying25 hi0 hz0 hz1 hz2 rfl (by omega) u5 k _ rfl (hown.out.alloc _) _ _ 1 1 _ rfl (Reads.box wr _ _ (size := 1) (n := 1) rfl) (by simp [Value.oneCell']) (by simp only [maxLen]; omega) (by omega) (by simp; omega) ?_; intro v1 w1 hown1 hg1 hat1; have hb1' := hide (below_append hb.out hown.out hg1 hz); have hz1' : w.heap.size ≤ w1.heap.size := hb1'.out.size; have Ho1 := hide hown1; clear hown1 hg1 hat1)
            | (at_builtin; refine wpList_append_any _ rfl (.tmp 44) (.tmp 47) _ rfl w.heap.size 22 i0 _ 1 4 Try.underlying25 hi0 hz0 hz1 hz2 rfl (by omega) v1 (k + 1) _ rfl Ho1.out D _ 0 _ [] rfl Reads.none_ (by simp) (by simp only [maxLen]; omega) (by omega) hz1' ?_; intro v2 w2 hown2 hg2 hat2))
          go_ret
          exact ⟨v2, rfl, FIN.out _ _ _ _ Ho1.out hb1'.out hown2 hg2⟩
        · go_wp2_with (first
            | (at_builtin; refine wpList_append_any _ rfl (.tmp 40) (.tmp 42) _ rfl w.heap.size 22 i0 _ 1 4 Try.underlying25 hi0 hz0 hz1 hz2 rfl (by omega) u5 k _ rfl (hown.out.alloc _) _ _ 1 1 _ rfl (Reads.box wr _ _ (size := 1) (n := 1) rfl) (by simp [Value.oneCell']) (by simp only [maxLen]; omega) (by omega) (by simp; omega) ?_; intro v1 w1 hown1 hg1 hat1; have hb1' := hide (below_append hb.out hown.out hg1 hz); have hz1' : w.heap.size ≤ w1.heap.size := hb1'.out.size; have Ho1 := hide hown1; clear hown1 hg1 hat1)
            | (at_builtin; refine wpList_append_any _ rfl (.tmp 44) (.tmp 47) _ rfl w.heap.size 22 i0 _ 1 4 Try.underlying25 hi0 hz0 hz1 hz2 rfl (by omega) v1 (k + 1) _ rfl Ho1.out D _ 0 _ [] rfl Reads.none_ (by simp) (by simp only [maxLen]; omega) (by omega) hz1' ?_; intro v2 w2 hown2 hg2 hat2))
          go_ret
          exact ⟨v2, rfl, FIN.out _ _ _ _ Ho1.out hb1'.out hown2 hg2⟩

end Go.Proofs.Ytfdgflhbooaomaa
