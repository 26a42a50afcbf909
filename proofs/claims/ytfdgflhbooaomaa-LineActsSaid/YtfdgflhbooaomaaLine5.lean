/- walks: slices.Insert in the words of owned rows; line.put -/
import Derived.Test.YtfdgflhbooaomaaLine4
namespace Go.Proofs.Ytfdgflhbooaomaa
open Go.RowKit

theorem setCells_grown' {w0 w : World} {g : Nat} {row : Option Nat} (h : w0.grownBy w row) (hg : row = some g ∨ w0.heap.size ≤ g) (vs : List Value) (o : Nat) : w0.grownBy (w.setCells g o vs) row := by
  have k := setCells_grown (g := g) vs o w
  refine ⟨k.os.trans h.os, k.tape.trans h.tape, k.output.trans h.output, Nat.le_trans h.size k.size, fun i hi hne => ?_⟩
  refine (k.block i (Nat.lt_of_lt_of_le hi h.size) (fun e => ?_)).trans (h.block i hi hne)
  injection e with e
  rcases hg with hg | hg
  · exact hne (by rw [hg, e])
  · omega
theorem grown_drew' {w0 w : World} {row : Option Nat} (h : w0.grownBy w row) : w0.grownBy w.drew row := ⟨h.os, h.tape, h.output, h.size, h.block⟩
theorem grown_alloc' {w0 w : World} {row : Option Nat} (h : w0.grownBy w row) (o : Obj) : w0.grownBy (w.alloc o) row :=
  ⟨h.os, h.tape, h.output, Nat.le_trans h.size (by simp), fun i hi hne => (Below.heap_alloc w o i (Nat.lt_of_lt_of_le hi h.size)).trans (h.block i hi hne)⟩

theorem splice_take {l m : List Value} {i n : Nat} {y : Value} (hi : i < n) (hn : n ≤ l.length) :
    ((l.take (i + 1) ++ (l.take n).drop i ++ m).take i ++ [y] ++ (l.take (i + 1) ++ (l.take n).drop i ++ m).drop (i + 1)).take (n + 1) = (l.take n).take i ++ y :: (l.take n).drop i := by
  have h1 : (l.take (i + 1) ++ (l.take n).drop i ++ m).take i = l.take i := by
    rw [List.append_assoc, List.take_append_of_le_length (by simp; omega), List.take_take]
    congr 1
    omega
  have h2 : (l.take (i + 1) ++ (l.take n).drop i ++ m).drop (i + 1) = (l.take n).drop i ++ m := by
    rw [List.append_assoc, List.drop_append_of_le_length (by simp; omega), List.drop_of_length_le (by simp; omega), List.nil_append]
  rw [h1, h2, List.take_take, show min i n = i from by omega, List.append_assoc, List.take_append, List.take_of_length_le (by simp; omega)]
  congr 1
  have hl : (l.take i).length = i := by simp; omega
  rw [hl, show n + 1 - i = (n - i) + 1 from by omega]
  simp only [List.singleton_append, List.take_succ_cons]
  congr 1
  rw [List.take_append_of_le_length (by simp; omega), List.take_of_length_le (by simp; omega)]

theorem splice_new {l r : List Value} {i n : Nat} {y : Value} (hi : i < n) (hn : n ≤ l.length) (hr : n + 1 ≤ r.length) (ht : r.take i = l.take i) :
    ((r.take i ++ [y] ++ r.drop (i + 1)).take (i + 1) ++ (l.take n).drop i ++ (r.take i ++ [y] ++ r.drop (i + 1)).drop (i + 1 + (n - i))).take (n + 1) = (l.take n).take i ++ y :: (l.take n).drop i := by
  have hl : (r.take i).length = i := by simp; omega
  have h1 : (r.take i ++ [y] ++ r.drop (i + 1)).take (i + 1) = r.take i ++ [y] := by
    rw [List.take_append_of_le_length (by simp; omega), List.take_of_length_le (by simp; omega)]
  rw [h1, ht, List.take_append_of_le_length (by simp; omega), List.take_of_length_le (by simp; omega), List.take_take, show min i n = i from by omega]
  simp

set_option maxHeartbeats 1000000 in
theorem insert_own (base : Nat) (A : Option Addr) (n c i vb : Nat) (xs : List Value) (y : Value) (w : World) (hown : w.ownsRow base 22 1 (.slice A n c) n xs) (hi : i ≤ n) (hn : n ≤ 1000000) (hv : Blk w vb 22 #[y]) (hne : ∀ g, A = some ⟨g, 0, none⟩ → vb ≠ g)
    (h1 : ∀ u ∈ xs, u.oneCell' = true) (hy : y.oneCell' = true) (hbase : base ≤ w.heap.size) :
    Calls Try.prog 41 #[.slice A n c, .int .i64 i, .slice (some ⟨vb, 0, none⟩) 1 1] w fun e w' => ∃ A' c', e = .returned (.slice A' (n + 1) c') ∧ w'.ownsRow base 22 1 (.slice A' (n + 1) c') (n + 1) (xs.take i ++ y :: xs.drop i) ∧ w.grownBy w' (Value.slice A n c).ownBlock := by
  by_cases hin : i = n
  · subst hin
    obtain ⟨i0, hi0, hz0, hz1, hz2⟩ := info_parts u32_info
    have HO := hide hown
    have HV := hide hv
    have hxl : xs.length = i := by simpa using hown.1
    have hout : ∀ (v : Value) (w' : World), w'.ownsRow base 22 1 v (i + 1) (xs ++ #[y].toList) → w.grownBy w' (Value.slice A i c).ownBlock → ∃ A' c', Ending.returned v = .returned (.slice A' (i + 1) c') ∧ w'.ownsRow base 22 1 (.slice A' (i + 1) c') (i + 1) (xs.take i ++ y :: xs.drop i) ∧ w.grownBy w' (Value.slice A i c).ownBlock := by
      intro v w' h2 h3
      obtain ⟨A', c', rfl⟩ := own_form h2
      rw [List.take_of_length_le (by omega), List.drop_of_length_le (by omega)]
      exact ⟨A', c', rfl, h2, h3⟩
    have HOUT := hide hout
    clear hown hv hne hxl hout
    have hcc : i ≤ c := by
      rcases HO.out.2 with ⟨h, h0⟩ | ⟨g, cap, cur, h, _, _, hnc, _⟩
      · omega
      · injection h with _ _ h
        omega
    rcases A with _ | ad
    · go_enter Try.func41, Try.ntmps41
      go_wp2_with (at_builtin; refine wpList_append_any _ rfl (.tmp 23) (.tmp 24) _ rfl base 22 i0 _ 1 4 Try.underlying25 hi0 hz0 hz1 hz2 rfl (by omega) _ _ _ rfl HO.out (fun b => b = vb) _ 1 1 _ rfl HV.out.reads (by simpa using hy) (by simp only [maxLen]; omega) (by omega) hbase ?_; intro v1 w1 hown1 hg1 hat1)
      all_goals (go_ret; exact HOUT.out _ _ hown1 hg1)
    · go_enter Try.func41, Try.ntmps41
      go_wp2_with (at_builtin; refine wpList_append_any _ rfl (.tmp 23) (.tmp 24) _ rfl base 22 i0 _ 1 4 Try.underlying25 hi0 hz0 hz1 hz2 rfl (by omega) _ _ _ rfl HO.out (fun b => b = vb) _ 1 1 _ rfl HV.out.reads (by simpa using hy) (by simp only [maxLen]; omega) (by omega) hbase ?_; intro v1 w1 hown1 hg1 hat1)
      all_goals (go_ret; exact HOUT.out _ _ hown1 hg1)
  · rcases hown.2 with ⟨_, h0⟩ | ⟨g, cap, cur, h, hg, hk, hnc, hcm, hcs, hcx⟩
    · omega
    · injection h with hA _ hC
      subst hA
      subst hC
      have hk' : Blk w g 22 cur := hk
      rw [Nat.mul_one] at hcs hcx
      have hB : ∀ row, (Value.slice (some ⟨g, 0, none⟩) n c).ownBlock = row → row = some g := fun row h => by rw [← h]; rfl
      by_cases hroom : n + 1 ≤ c
      · refine (insert_shift g n c i vb cur y w hk' hcs (by omega) hroom (by simpa [maxLen] using hcm) hv (hne g rfl) (by rw [hcx]; exact h1) hy).mono ?_
        rintro e w' ⟨rfl, rfl⟩
        refine ⟨_, _, rfl, ⟨by simp [← hcx]; omega, .inr ⟨g, c, _, rfl, hg, blk_setCells _ _ _ _ (blk_setCells _ _ _ _ hk'.drew (by simp; omega)) (by simp; omega), hroom, hcm, by simp; omega, ?_⟩⟩, setCells_grown' (setCells_grown' (grown_drew' (World.grownBy.refl w _)) (.inl rfl) _ _) (.inl rfl) _ _⟩
        rw [Nat.mul_one, ← hcx]
        exact splice_take (by omega) (by simp; omega)
      · refine (insert_grow g n c i vb cur y w hk' hcs (by omega) hnc (by omega) hn hv (by rw [hcx]; exact h1) hy).mono ?_
        rintro e w' ⟨G, row, rfl, hG, hGm, hrs, hrt, rfl⟩
        have hb0 : Blk (w.alloc (.cells row 22)).drew w.heap.size 22 row := Blk.new w _ _
        have hb1 := blk_setCells [y] i _ _ hb0 (by simp; omega)
        have hb2 := blk_setCells ((cur.toList.take n).drop i) (i + 1) _ _ hb1.drew (by simp; omega)
        refine ⟨_, _, rfl, ⟨by simp [← hcx]; omega, .inr ⟨w.heap.size, G, _, rfl, hbase, hb2, hG, hGm, by simp; omega, ?_⟩⟩, setCells_grown' (grown_drew' (setCells_grown' (grown_drew' (grown_alloc' (World.grownBy.refl w _) _)) (.inr (Nat.le_refl _)) _ _)) (.inr (Nat.le_refl _)) _ _⟩
        rw [Nat.mul_one, ← hcx]
        have hl2 : ((cur.toList.take n).drop i).length = n - i := by simp; omega
        rw [hl2]
        exact splice_new (by omega) (by simp; omega) (by simp; omega) hrt

theorem ins_len_le (l : List Int) (x : Int) : (ins l x).length ≤ l.length + 1 := by
  unfold ins
  split
  · omega
  · simp
    omega

set_option maxHeartbeats 1000000 in
theorem put_any (D : Nat → Prop) (v : Value) (l : List Int) (x : Int) (w : World) (h : U32s.at_ w D [v] l) (hup : rising l = true) (hn : l.length ≤ 1000) :
    Calls Try.prog 36 #[v, .int .u32 x] w fun e w' => ∃ A c, e = .returned (.slice A (ins l x).length c) ∧ U32s.at_ w' (dom D w.heap.size [] w') [.slice A (ins l x).length c] (ins l x) ∧ Below w.heap.size w w' := by
  have H := hide h
  clear h
  obtain ⟨A, c, rfl, hc, hr⟩ := ints_open H.out
  have HR := hide hr
  have HU := hide hup
  clear hr hup
  by_cases hf : l[lb l x]? = some x
  · have HI := hide (show ins l x = l from by unfold ins; rw [if_pos hf])
    have hd : decide (l[lb l x]? = some x) = true := by simp [hf]
    clear hf
    go_enter Try.func36, Try.ntmps36
    go_wp2_with fail
    refine (bsearch_u32 D A c l x _ HR.out HU.out (by omega)).mono ?_
    rintro e w' ⟨rfl, rfl⟩
    go_wp2_with fail
    refine (clone_u32 D _ l _ H.out (by omega)).mono ?_
    rintro e w1 ⟨A', c', rfl, -, h1, hb1⟩
    have H1 := hide h1
    clear h1
    go_wp2_with fail
    go_ret
    rw [HI.out]
    exact ⟨A', c', rfl, H1.out, hb1⟩
  · have HI := hide (show ins l x = l.take (lb l x) ++ x :: l.drop (lb l x) from by unfold ins; rw [if_neg hf])
    have hd : decide (l[lb l x]? = some x) = false := by simp [hf]
    have hlb := lb_le l x
    clear hf
    go_enter Try.func36, Try.ntmps36
    go_wp2_with fail
    refine (bsearch_u32 D A c l x _ HR.out HU.out (by omega)).mono ?_
    rintro e w' ⟨rfl, rfl⟩
    go_wp2_with fail
    refine (clone_u32 D _ l _ H.out (by omega)).mono ?_
    rintro e w1 ⟨A', c', rfl, ho1, -, hb1⟩
    have HO := hide ho1
    have hz1 := hb1.size
    have HB := hide hb1
    clear ho1 hb1
    go_wp2_with fail
    refine (insert_own w.heap.size A' l.length c' (lb l x) w1.heap.size _ (.int .u32 x) _ (HO.out.alloc _) hlb (by omega) (Blk.new _ _ _) ?_ (ints_one l) rfl (by simp; omega)).mono ?_
    · intro g e1
      have := (HO.out.lt g (by rw [e1]; rfl)).2
      omega
    · rintro e w2 ⟨A2, c2, rfl, ho2, hg2⟩
      have HO2 := hide ho2
      have HB2 := hide (below_append HB.out HO.out hg2 hz1)
      clear ho2 hg2
      go_wp2_with fail
      go_ret
      have el : (ins l x).length = l.length + 1 := by rw [HI.out]; simp; omega
      have em : (ins l x).map (Value.int .u32) = (l.map (Value.int .u32)).take (lb l x) ++ Value.int .u32 x :: (l.map (Value.int .u32)).drop (lb l x) := by rw [HI.out]; simp [List.map_take, List.map_drop]
      rw [el]
      exact ⟨A2, c2, rfl, ints_of_own el (by rw [em]; exact HO2.out) (fun b h1 h2 => ⟨h2, .inr h1, by simp⟩), HB2.out⟩

end Go.Proofs.Ytfdgflhbooaomaa
