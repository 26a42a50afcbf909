/- walks: slices of uint32 -/
import Derived.Test.YtfdgflhbooaomaaRows
import Derived.Test.YtfdgflhbooaomaaWords
import Derived.Test.YtfdgflhbooaomaaRegion
import Derived.WalkKit
import Derived.WalkSpells
import Derived.WalkLawsBesides
import Derived.Lib.Hide
import Derived.Deep.QuietTactic
import Derived.BigQuiet
import Derived.Deep.RegionWith
import Derived.Deep.RegionHeld3
import Derived.Deep.DeepCutAuto
namespace Go.Proofs.Ytfdgflhbooaomaa
open Go.RowKit

abbrev U32s : Rp (List Int) := (Rp.int .u32).slice
def vals (l : List Int) : List Value := l.map (Value.int .u32)

theorem u32_info : (Try.prog.info? 22).map (fun i => (i.zero, i.size, i.bytes)) = some (some (.int .u32 0), 1, 4) := by kernel_rfl

set_option maxHeartbeats 400000 in
theorem clone_own (D : Nat → Prop) (A : Option Addr) (n c : Nat) (xs : List Value) (w : World) (hr : Reads w D 1 A n xs) (h1 : ∀ u ∈ xs, u.oneCell' = true) (hn : n ≤ 1000000) :
    Calls Try.prog 38 #[.slice A n c] w fun e w' => ∃ v, e = .returned v ∧ w'.ownsRow w.heap.size 22 1 v n xs ∧ Below w.heap.size w w' := by
  obtain ⟨i0, hi0, hz0, hz1, hz2⟩ := info_parts u32_info
  have hnil := fun (w : World) (a : Option Addr) (n c : Nat) => Lib.run_eql_slice_nil (P := Try.prog) w 25 22 a n c 0 0 Try.underlying25
  rcases A with _ | ad
  · have hm : n = 0 := by
      rcases Nat.eq_zero_or_pos n with h0 | h0
      · exact h0
      · obtain ⟨ad, h, _⟩ := hr.2 h0
        cases h
    subst hm
    have hxs : xs = [] := List.eq_nil_of_length_eq_zero (by simpa using hr.1)
    subst hxs
    go_enter Try.func38, Try.ntmps38
    go_wp2
    go_ret
    exact ⟨_, rfl, World.ownsRow_nil _ _ _ _, Below.refl _ _⟩
  · go_enter Try.func38, Try.ntmps38
    go_wp2_with (at_builtin; refine wpList_append_any _ rfl (.tmp 5) (.tmp 6) _ rfl w.heap.size 22 i0 _ 1 4 Try.underlying25 hi0 hz0 hz1 hz2 rfl (by omega) (.slice (some ⟨w.heap.size, 0, none⟩) 0 0) 0 [] rfl (World.ownsRow_made w #[] 0 (Nat.le_refl _) (by simp [maxLen]) (by simp)) D (some ad) n c xs rfl (hr.keep (Holds.alloc _) (fun _ h _ => h) (by omega)) h1 (by simp only [maxLen]; omega) (by omega) (by simp) ?_; intro v1 w1 hown1 hg1 hat1)
    go_ret
    refine ⟨v1, rfl, by simpa using hown1, ((Below.refl _ _).alloc (Nat.le_refl _) _).grown hg1 (by simp) (fun k hk => ?_)⟩
    simp [Value.ownBlock] at hk
    omega

theorem int_rows {k : IntKind} {w : World} {D : Nat → Prop} : ∀ {css : List (List Value)} {l : List Int}, (Rp.int k).rows w D css l → css.flatten = l.map (Value.int k)
  | [], [], _ => rfl
  | c :: css, x :: l, h => by
    have h1 : c = [Value.int k x] := h.1
    have h2 := int_rows h.2
    simp [h1, h2]
  | [], _ :: _, h => h.elim
  | _ :: _, [], h => h.elim
theorem int_rows_mk {k : IntKind} {w : World} {D : Nat → Prop} : ∀ (l : List Int), (Rp.int k).rows w D (l.map fun x => [Value.int k x]) l
  | [] => trivial
  | _ :: l => ⟨rfl, int_rows_mk l⟩
theorem flatten_ints {k : IntKind} (l : List Int) : (l.map fun x => [Value.int k x]).flatten = l.map (Value.int k) := by
  induction l with
  | nil => rfl
  | cons x l ih => simp [ih]

/-- a slice of numbers, taken apart -/
theorem ints_open {k : IntKind} {w : World} {D : Nat → Prop} {v : Value} {l : List Int} (h : (Rp.int k).slice.at_ w D [v] l) :
    ∃ A c, v = .slice A l.length c ∧ l.length ≤ c ∧ Reads w D 1 A l.length (l.map (Value.int k)) := by
  obtain ⟨A, c, css, e, hc, hr, h⟩ := h
  simp at e
  exact ⟨A, c, e, hc, by rw [← int_rows hr]; exact h⟩
theorem ints_mk {k : IntKind} {w : World} {D : Nat → Prop} {A : Option Addr} {c : Nat} {l : List Int} (hc : l.length ≤ c) (h : Reads w D 1 A l.length (l.map (Value.int k))) :
    (Rp.int k).slice.at_ w D [.slice A l.length c] l :=
  ⟨A, c, _, rfl, hc, int_rows_mk l, by rw [flatten_ints]; exact h⟩
theorem ints_of_own {k : IntKind} {w : World} {D : Nat → Prop} {base : Nat} {e : TypeId} {v : Value} {n : Nat} {l : List Int} (hn : l.length = n) (h : w.ownsRow base e 1 v n (l.map (Value.int k))) (hD : ∀ b, base ≤ b → b < w.heap.size → D b) : (Rp.int k).slice.at_ w D [v] l := by
  subst hn
  exact Rp.slice_of_own (R := Rp.int k) (int_rows_mk l) (by rw [flatten_ints]; exact h) hD
theorem ints_at {k : IntKind} {w : World} {D : Nat → Prop} {A : Option Addr} {n : Nat} {l : List Int} (h : Reads w D 1 A n (l.map (Value.int k))) {i : Nat} (hi : i < n) : ∃ ad, A = some ad ∧ D ad.block ∧ w.cell? (ad.add i) = some (.int k (l.getD i 0)) := by
  obtain ⟨ad, u, e, hd, hu, hc⟩ := h.at_ hi
  refine ⟨ad, e, hd, ?_⟩
  rw [hc, ← hu, List.getElem?_map, List.getD_eq_getElem?_getD]
  have hl : i < l.length := by
    have := h.1
    simp at this
    omega
  rw [List.getElem?_eq_getElem hl]
  rfl
theorem ints_one {k : IntKind} (l : List Int) : ∀ u ∈ l.map (Value.int k), u.oneCell' = true := by
  intro u hu
  simp at hu
  obtain ⟨a, _, rfl⟩ := hu
  rfl

theorem own_form {w : World} {base : Nat} {e : TypeId} {size : Nat} {v : Value} {n : Nat} {xs : List Value} (h : w.ownsRow base e size v n xs) : ∃ A c, v = .slice A n c := by
  rcases h.2 with ⟨rfl, rfl⟩ | ⟨g, cap, cur, rfl, _⟩
  · exact ⟨_, _, rfl⟩
  · exact ⟨_, _, rfl⟩

theorem clone_u32 (D : Nat → Prop) (v : Value) (l : List Int) (w : World) (h : U32s.at_ w D [v] l) (hn : l.length ≤ 1000000) :
    Calls Try.prog 38 #[v] w fun e w' => ∃ A c, e = .returned (.slice A l.length c) ∧ w'.ownsRow w.heap.size 22 1 (.slice A l.length c) l.length (l.map (Value.int .u32)) ∧ U32s.at_ w' (dom D w.heap.size [] w') [.slice A l.length c] l ∧ Below w.heap.size w w' := by
  obtain ⟨A, c, rfl, hc, hr⟩ := ints_open h
  refine (clone_own D A l.length c _ w hr (ints_one l) hn).mono ?_
  rintro e w' ⟨v, rfl, hown, hb⟩
  obtain ⟨A', c', rfl⟩ := own_form hown
  exact ⟨A', c', rfl, hown, ints_of_own rfl hown (fun b h1 h2 => ⟨h2, .inr h1, by simp⟩), hb⟩

structure LineM where
  r : Int
  n : Int
  item : Int
  qty : Int
  price : Int
  vr : Int
  vn : Int
  ap : List Int
  re : List Int
  st : Int

def LineR : Rp LineM where
  size := 10
  pos := by omega
  at_ := fun w D cs x => ∃ A c A' c', cs = [.int .u8 x.r, .int .u32 x.n, .int .u32 x.item, .int .u32 x.qty, .int .u32 x.price, .int .u8 x.vr, .int .u32 x.vn, .slice A x.ap.length c, .slice A' x.re.length c', .int .u8 x.st] ∧ U32s.at_ w D [.slice A x.ap.length c] x.ap ∧ U32s.at_ w D [.slice A' x.re.length c'] x.re
  len := by rintro _ _ _ _ ⟨A, c, A', c', rfl, _⟩; rfl
  keep := by
    rintro w w' D D' cs x hk hD ⟨A, c, A', c', rfl, ha, hb⟩
    exact ⟨A, c, A', c', rfl, U32s.keep hk hD ha, U32s.keep hk hD hb⟩
  one := by
    rintro _ _ _ _ ⟨A, c, A', c', rfl, ha, hb⟩ u hu
    simp at hu
    rcases hu with rfl | rfl | rfl | rfl | rfl | rfl | rfl | rfl | rfl | rfl <;> rfl

set_option maxHeartbeats 1000000 in
theorem copied_any (D : Nat → Prop) (cs : List Value) (x : LineM) (w : World) (h : LineR.at_ w D cs x) (ha : x.ap.length ≤ 1000000) (hb : x.re.length ≤ 1000000) :
    Calls Try.prog 25 #[.agg cs.toArray] w fun e w' => ∃ cs', e = .returned (.agg cs'.toArray) ∧ LineR.at_ w' (dom D w.heap.size [] w') cs' x ∧ Below w.heap.size w w' := by
  obtain ⟨A, c, A', c', rfl, h1, h2⟩ := h
  go_enter Try.func25, Try.ntmps25
  go_wp2_with fail
  refine at_code2 w.heap.size 27 (w.heap.size + 1) 27 (fun W => Below w.heap.size w W) ((Blk.new _ _ _).alloc _) (Blk.new_ (by simp)) (((Below.refl _ _).alloc (Nat.le_refl _) _).alloc (by simp) _) ?_
  rintro W k0 k1 b0
  have H1 := hide (U32s.boxed (U32s.start h1) b0 (L' := [w.heap.size, w.heap.size + 1]) (by simp))
  have H2 := hide (U32s.boxed (U32s.start h2) b0 (L' := [w.heap.size, w.heap.size + 1]) (by simp))
  clear h1 h2
  have B0 := hide b0
  have K0 := hide k0
  have K1 := hide k1
  have L1 := k1.lt
  have HL : Hid (∀ g ∈ [w.heap.size, w.heap.size + 1], g < W.heap.size) := by intro g hg; simp at hg; omega
  obtain ⟨c0, f0⟩ := k0.rules
  have L0 := k0.lt
  clear k0 k1 b0
  have s0 : Below W.heap.size W W.drew := (Below.refl _ _).drew
  refine wp_region_seq [(0, 2), (1, 1), (3, 2), (4, 1), (2, 0), (6, 2), (5, 0), (7, 0), (8, 2), (9, 0)] (fun j => !(j == 7 || j == 9)) (fun w' => Below W.heap.size W w') (by kernel_rfl) (by kernel_rfl) ?_
  intro ops hops
  have HOPS := hide hops
  clear hops
  refine wpSeq_pure (o := ?ro10) (v := ?rv10) ?rh10 ?rg10 ?rq10 ?ry10 ?_
  case rh10 => rw [HOPS.out]; simp only [List.getElem?_toArray, List.getElem?_cons_succ, List.getElem?_cons_zero]; exact rfl
  case rg10 => rfl
  case rq10 => exact fun _ _ _ h => h
  case ry10 => intro w'; go_simp; try with_reducible rfl
  simp only [Act.put, List.setIfInBounds_toArray, List.set_cons_succ, List.set_cons_zero]
  refine wpSeq_read (o := ?ro11) (v := ?rv11) ?rh11 ?rg11 ?rq11 s0 ?ry11 ?_
  case rh11 => rw [HOPS.out]; simp only [List.getElem?_toArray, List.getElem?_cons_succ, List.getElem?_cons_zero]; exact rfl
  case rg11 => rfl
  case rq11 => exact fun _ _ _ h => h
  case ry11 => intro w' hs; obtain ⟨cc, ff⟩ := bcell hs; go_simp; try with_reducible rfl
  simp only [Act.put, List.setIfInBounds_toArray, List.set_cons_succ, List.set_cons_zero]
  refine wpSeq_pure (o := ?ro12) (v := ?rv12) ?rh12 ?rg12 ?rq12 ?ry12 ?_
  case rh12 => rw [HOPS.out]; simp only [List.getElem?_toArray, List.getElem?_cons_succ, List.getElem?_cons_zero]; exact rfl
  case rg12 => rfl
  case rq12 => exact fun _ _ _ h => h
  case ry12 => intro w'; go_simp; try with_reducible rfl
  simp only [Act.put, List.setIfInBounds_toArray, List.set_cons_succ, List.set_cons_zero]
  refine wpSeq_read (o := ?ro13) (v := ?rv13) ?rh13 ?rg13 ?rq13 s0 ?ry13 ?_
  case rh13 => rw [HOPS.out]; simp only [List.getElem?_toArray, List.getElem?_cons_succ, List.getElem?_cons_zero]; exact rfl
  case rg13 => rfl
  case rq13 => exact fun _ _ _ h => h
  case ry13 => intro w' hs; obtain ⟨cc, ff⟩ := bcell hs; go_simp; try with_reducible rfl
  simp only [Act.put, List.setIfInBounds_toArray, List.set_cons_succ, List.set_cons_zero]
  refine wpSeq_step (o := ?ro14) ?rh14 (fun K hK => ?_)
  case rh14 => rw [HOPS.out]; simp only [List.getElem?_toArray, List.getElem?_cons_succ, List.getElem?_cons_zero]; exact rfl
  go_simp
  refine (clone_u32 _ _ x.ap _ (by exact U32s.after (unhide H1) s0) ha).mono ?_
  rintro e w1 ⟨Aa, ca, rfl, -, hra, hb1⟩
  have s1 := undrew hb1
  have Ha := hide (U32s.called hra (unhide HL) (unhide B0).size)
  clear hb1 hra
  refine hK _ _ (fun _ _ => s1) ?_
  clear hK K
  refine wpSeq_pure (o := ?ro15) (v := ?rv15) ?rh15 ?rg15 ?rq15 ?ry15 ?_
  case rh15 => rw [HOPS.out]; simp only [List.getElem?_toArray, List.getElem?_cons_succ, List.getElem?_cons_zero]; exact rfl
  case rg15 => rfl
  case rq15 => exact fun _ _ _ h => h
  case ry15 => intro w'; go_simp; try with_reducible rfl
  simp only [Act.put, List.setIfInBounds_toArray, List.set_cons_succ, List.set_cons_zero]
  refine wpSeq_step (o := ?ro16) ?rh16 (fun K hK => ?_)
  case rh16 => rw [HOPS.out]; simp only [List.getElem?_toArray, List.getElem?_cons_succ, List.getElem?_cons_zero]; exact rfl
  go_simp
  refine (clone_u32 _ _ x.re _ (by exact U32s.after (unhide H2) s1) hb).mono ?_
  rintro e w2 ⟨Ab, cb, rfl, -, hrb, hb2⟩
  have s2 := s1.trans (hb2.mono s1.size)
  have Ha2 := hide (U32s.after (unhide Ha) hb2)
  have Hb := hide (U32s.called hrb (fun g hg => Nat.lt_of_lt_of_le (unhide HL g hg) s1.size) (Nat.le_trans (unhide B0).size s1.size))
  have K0' := hide ((unhide K0).after s2)
  have K1' := hide ((unhide K1).after s2)
  obtain ⟨c2, f2⟩ := (unhide K0').rules
  obtain ⟨c3, f3⟩ := (unhide K1').rules
  clear hrb Ha c0 f0 hb2
  refine hK _ _ (fun _ _ => s2) ?_
  clear hK K
  refine wpSeq_step (o := ?ro17) ?rh17 (fun K hK => ?_)
  case rh17 => rw [HOPS.out]; simp only [List.getElem?_toArray, List.getElem?_cons_succ, List.getElem?_cons_zero]; exact rfl
  go_simp
  refine hK _ _ (fun h => by cases h) ?_
  clear hK K
  refine wpSeq_pure (o := ?ro18) (v := ?rv18) ?rh18 ?rg18 ?rq18 ?ry18 ?_
  case rh18 => rw [HOPS.out]; simp only [List.getElem?_toArray, List.getElem?_cons_succ, List.getElem?_cons_zero]; exact rfl
  case rg18 => rfl
  case rq18 => exact fun _ _ _ h => h
  case ry18 => intro w'; go_simp; try with_reducible rfl
  simp only [Act.put, List.setIfInBounds_toArray, List.set_cons_succ, List.set_cons_zero]
  refine wpSeq_step (o := ?ro19) ?rh19 (fun K hK => ?_)
  case rh19 => rw [HOPS.out]; simp only [List.getElem?_toArray, List.getElem?_cons_succ, List.getElem?_cons_zero]; exact rfl
  go_simp
  refine hK _ _ (fun h => by cases h) ?_
  clear hK K
  refine wpSeq_nil ?_
  go_wp2
  refine bodyPost_ret (v := .agg #[.int .u8 x.r, .int .u32 x.n, .int .u32 x.item, .int .u32 x.qty, .int .u32 x.price, .int .u8 x.vr, .int .u32 x.vn, .slice Aa x.ap.length ca, .slice Ab x.re.length cb, .int .u8 x.st]) (by simp [results, Try.results25, go_sem, c3, f3]) rfl ⟨_, rfl, ⟨Aa, ca, Ab, cb, rfl, ?_, ?_⟩, ?_⟩
  · refine Rp.ends _ (L := [w.heap.size, w.heap.size + 1]) ?_
    repeat (refine Rp.stored _ ?_ (by simp) _)
    exact unhide Ha2
  · refine Rp.ends _ (L := [w.heap.size, w.heap.size + 1]) ?_
    repeat (refine Rp.stored _ ?_ (by simp) _)
    exact unhide Hb
  · repeat (refine Below.setCell ?_ (by simp) _)
    exact (unhide B0).trans (s2.mono (unhide B0).size)

end Go.Proofs.Ytfdgflhbooaomaa
