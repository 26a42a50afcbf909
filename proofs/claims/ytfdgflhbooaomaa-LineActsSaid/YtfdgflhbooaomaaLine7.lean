/- walks: line.acts, the search by kind, line.Act -/
import Derived.Test.YtfdgflhbooaomaaLine6
import Derived.Laws.EntriesVeiled
namespace Go.Proofs.Ytfdgflhbooaomaa
open Go.RowKit

set_option maxHeartbeats 1000000 in
theorem acts_any (w : World) : Calls Try.prog 22 #[] w fun e w' => e = .returned (.agg #[.int .u8 4, .func (.func 33) #[] #[], .int .u8 5, .func (.func 34) #[] #[], .int .u8 6, .func (.func 35) #[] #[], .int .u8 7, .func (.func 37) #[] #[]]) ∧ Below w.heap.size w w' := by
  go_enter Try.func22, Try.ntmps22
  go_wp2
  refine bodyPost_ret (v := .agg #[.int .u8 4, .func (.func 33) #[] #[], .int .u8 5, .func (.func 34) #[] #[], .int .u8 6, .func (.func 35) #[] #[], .int .u8 7, .func (.func 37) #[] #[]]) (by simp [results, Try.results22, go_sem]) rfl ⟨rfl, ?_⟩
  repeat (refine Below.setCell ?_ (by simp) _)
  exact (Below.refl _ _).alloc (Nat.le_refl _) _

set_option maxHeartbeats 1000000 in
theorem actk_any (w : World) (g : Nat) (os : Array Value) (k kind : Int) (fv : Value) (hk : Blk w g 33 os) (ho : os[14]? = some (.int .u8 kind)) :
    Calls Try.prog 24 #[.agg #[.int .u8 k, fv], .pointer (some ⟨g, 0, none⟩)] w fun e w' => e = .returned (.bool (k == kind)) ∧ Below w.heap.size w w' := by
  obtain ⟨c0, f0⟩ := hk.rules
  have l0 := hk.lt
  clear hk
  go_enter Try.func24, Try.ntmps24
  go_wp2
  go_ret
  exact ⟨rfl, (Below.refl _ _).alloc (Nat.le_refl _) _⟩

/-- where a kind stands among them -/
def kidx (k : Int) : Int := if k = 4 then 0 else if k = 5 then 1 else if k = 6 then 2 else if k = 7 then 3 else -1

set_option maxHeartbeats 1000000 in
theorem kindex_any (w : World) (g gt : Nat) (T : TypeId) (os : Array Value) (kind : Int) (hk : Blk w g 33 os) (ho : os[14]? = some (.int .u8 kind)) (ht : Blk w gt T #[.int .u8 4, .func (.func 33) #[] #[], .int .u8 5, .func (.func 34) #[] #[], .int .u8 6, .func (.func 35) #[] #[], .int .u8 7, .func (.func 37) #[] #[]]) :
    Calls Try.prog 23 #[.slice (some ⟨gt, 0, none⟩) 4 4, .func (.func 24) #[] #[.pointer (some ⟨g, 0, none⟩)]] w fun e w' => e = .returned (.int .i64 (kidx kind)) ∧ Below w.heap.size w w' := by
  have HK := hide hk
  have HT := hide ht
  clear hk ht
  go_enter Try.func23, Try.ntmps23
  go_wp2_with fail
  go_loopw [8] (fun u W => ∃ i : Nat, i ≤ 4 ∧ u = .int .i64 i ∧ Hid (Below w.heap.size w W) ∧ Hid (∀ j : Nat, j < i → kind ≠ (j : Int) + 4)) (fun u _ => (4 - intOf u).toNat)
  case atStart => exact ⟨0, by omega, rfl, Below.refl _ _, fun k hk => by omega⟩
  case round =>
    obtain ⟨i, hi, rfl, hb, h1⟩ := hrel
    have hz := hb.out.size
    have K := hide (HK.out.below hb.out HK.out.lt)
    have Tb := hide (HT.out.below hb.out HT.out.lt)
    obtain ⟨c1, f1⟩ := Tb.out.rules
    by_cases hlt : i < 4
    · have hcases : i = 0 ∨ i = 1 ∨ i = 2 ∨ i = 3 := by omega
      clear hi hlt
      rcases hcases with rfl | rfl | rfl | rfl
      · by_cases hkd : kind = 4
        · have hkb : ((4 : Int) == kind) = true := by simp [hkd]
          have HI := hide (show kidx kind = 0 from by rw [hkd]; decide)
          clear hkd
          go_wp2_with (go_at_call 24; refine (actk_any _ g os _ kind _ K.out ho).mono ?_; rintro e w1 ⟨rfl, hb1⟩)
          go_ret
          exact ⟨by rw [HI.out]; rfl, hb.out.trans (hb1.mono hz)⟩
        · have hkb : ((4 : Int) == kind) = false := by simp; omega
          have HK2 := hide hkd
          clear hkd
          go_wp2_with (go_at_call 24; refine (actk_any _ g os _ kind _ K.out ho).mono ?_; rintro e w1 ⟨rfl, hb1⟩)
          refine ⟨⟨0+1, by omega, by go_num, hb.out.trans (hb1.mono hz), fun j hj => ?_⟩, by simp [intOf]⟩
          by_cases e : j = 0
          · subst e
            have := HK2.out
            simp
            omega
          · exact h1.out j (by omega)
      · by_cases hkd : kind = 5
        · have hkb : ((5 : Int) == kind) = true := by simp [hkd]
          have HI := hide (show kidx kind = 1 from by rw [hkd]; decide)
          clear hkd
          go_wp2_with (go_at_call 24; refine (actk_any _ g os _ kind _ K.out ho).mono ?_; rintro e w1 ⟨rfl, hb1⟩)
          go_ret
          exact ⟨by rw [HI.out]; rfl, hb.out.trans (hb1.mono hz)⟩
        · have hkb : ((5 : Int) == kind) = false := by simp; omega
          have HK2 := hide hkd
          clear hkd
          go_wp2_with (go_at_call 24; refine (actk_any _ g os _ kind _ K.out ho).mono ?_; rintro e w1 ⟨rfl, hb1⟩)
          refine ⟨⟨1+1, by omega, by go_num, hb.out.trans (hb1.mono hz), fun j hj => ?_⟩, by simp [intOf]⟩
          by_cases e : j = 1
          · subst e
            have := HK2.out
            simp
            omega
          · exact h1.out j (by omega)
      · by_cases hkd : kind = 6
        · have hkb : ((6 : Int) == kind) = true := by simp [hkd]
          have HI := hide (show kidx kind = 2 from by rw [hkd]; decide)
          clear hkd
          go_wp2_with (go_at_call 24; refine (actk_any _ g os _ kind _ K.out ho).mono ?_; rintro e w1 ⟨rfl, hb1⟩)
          go_ret
          exact ⟨by rw [HI.out]; rfl, hb.out.trans (hb1.mono hz)⟩
        · have hkb : ((6 : Int) == kind) = false := by simp; omega
          have HK2 := hide hkd
          clear hkd
          go_wp2_with (go_at_call 24; refine (actk_any _ g os _ kind _ K.out ho).mono ?_; rintro e w1 ⟨rfl, hb1⟩)
          refine ⟨⟨2+1, by omega, by go_num, hb.out.trans (hb1.mono hz), fun j hj => ?_⟩, by simp [intOf]⟩
          by_cases e : j = 2
          · subst e
            have := HK2.out
            simp
            omega
          · exact h1.out j (by omega)
      · by_cases hkd : kind = 7
        · have hkb : ((7 : Int) == kind) = true := by simp [hkd]
          have HI := hide (show kidx kind = 3 from by rw [hkd]; decide)
          clear hkd
          go_wp2_with (go_at_call 24; refine (actk_any _ g os _ kind _ K.out ho).mono ?_; rintro e w1 ⟨rfl, hb1⟩)
          go_ret
          exact ⟨by rw [HI.out]; rfl, hb.out.trans (hb1.mono hz)⟩
        · have hkb : ((7 : Int) == kind) = false := by simp; omega
          have HK2 := hide hkd
          clear hkd
          go_wp2_with (go_at_call 24; refine (actk_any _ g os _ kind _ K.out ho).mono ?_; rintro e w1 ⟨rfl, hb1⟩)
          refine ⟨⟨3+1, by omega, by go_num, hb.out.trans (hb1.mono hz), fun j hj => ?_⟩, by simp [intOf]⟩
          by_cases e : j = 3
          · subst e
            have := HK2.out
            simp
            omega
          · exact h1.out j (by omega)
    · obtain rfl : i = 4 := by omega
      have HI := hide (show kidx kind = -1 from by
        have a0 := h1.out 0 (by omega)
        have a1 := h1.out 1 (by omega)
        have a2 := h1.out 2 (by omega)
        have a3 := h1.out 3 (by omega)
        simp at a0 a1 a2 a3
        unfold kidx
        rw [if_neg (by omega), if_neg (by omega), if_neg (by omega), if_neg (by omega)])
      go_wp2_with fail
      go_ret
      exact ⟨by rw [HI.out]; rfl, hb.out⟩

end Go.Proofs.Ytfdgflhbooaomaa
