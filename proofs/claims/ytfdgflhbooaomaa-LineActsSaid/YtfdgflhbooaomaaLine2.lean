/- walks: cmp.Less, slices.BinarySearch, slices.Equal, ContainsFunc at uint32; the reference's loops over uint32 -/
import Derived.Test.YtfdgflhbooaomaaLine1
import Derived.IntWalk
namespace Go.Proofs.Ytfdgflhbooaomaa
open Go.RowKit

/-- how many stand ahead of the first that is not below x -/
def lb (l : List Int) (x : Int) : Nat := (l.takeWhile (· < x)).length

theorem lb_le (l : List Int) (x : Int) : lb l x ≤ l.length := by
  unfold lb
  exact (List.takeWhile_sublist _).length_le
theorem lb_below : ∀ {l : List Int} {x : Int} {k : Nat}, k < lb l x → l.getD k 0 < x
  | [], _, _, h => by simp [lb] at h
  | a :: l, x, k, h => by
    unfold lb at h
    by_cases ha : a < x
    · simp [List.takeWhile_cons, ha] at h
      cases k with
      | zero => simpa using ha
      | succ k => simpa using lb_below (l := l) (x := x) (k := k) (by unfold lb; omega)
    · simp [List.takeWhile_cons, ha] at h
theorem lb_at : ∀ {l : List Int} {x : Int}, lb l x < l.length → x ≤ l.getD (lb l x) 0
  | [], _, h => by simp at h
  | a :: l, x, h => by
    by_cases ha : a < x
    · have e : lb (a :: l) x = lb l x + 1 := by simp [lb, List.takeWhile_cons, ha]
      rw [e] at h ⊢
      simpa using lb_at (l := l) (x := x) (by simpa using h)
    · have e : lb (a :: l) x = 0 := by simp [lb, List.takeWhile_cons, ha]
      rw [e]
      simp
      omega

/-- it rises -/
def rising : List Int → Bool
  | [] => true
  | [_] => true
  | a :: b :: l => decide (a < b) && rising (b :: l)

theorem rising_step : ∀ {l : List Int}, rising l = true → ∀ {i : Nat}, i + 1 < l.length → l.getD i 0 < l.getD (i + 1) 0
  | [], _, _, hi => by simp at hi
  | [_], _, _, hi => by simp at hi
  | a :: b :: l, h, 0, _ => by
    simp [rising] at h
    simpa using h.1
  | a :: b :: l, h, i + 1, hi => by
    simp [rising] at h
    have := rising_step (l := b :: l) h.2 (i := i) (by simpa using hi)
    simpa using this
theorem rising_lt {l : List Int} (h : rising l = true) {i j : Nat} (hij : i < j) (hj : j < l.length) : l.getD i 0 < l.getD j 0 := by
  induction j with
  | zero => omega
  | succ j ih =>
    have h1 := rising_step h (i := j) (by omega)
    by_cases e : i = j
    · subst e
      exact h1
    · have := ih (by omega) (by omega)
      omega
theorem lb_unique {l : List Int} {x : Int} {k : Nat} (hk : k ≤ l.length) (h1 : ∀ j, j < k → l.getD j 0 < x) (h2 : k < l.length → x ≤ l.getD k 0) : lb l x = k := by
  rcases Nat.lt_trichotomy (lb l x) k with h | h | h
  · have := lb_at (l := l) (x := x) (by omega)
    have := h1 _ h
    omega
  · exact h
  · have := lb_below h
    have := h2 (by have := lb_le l x; omega)
    omega

set_option maxHeartbeats 400000 in
theorem less_u32 (a b : Int) (w : World) :
    Calls Try.prog 42 #[.int .u32 a, .int .u32 b] w fun e w' => e = .returned (.bool (decide (a < b))) ∧ w = w' := by
  have hn : ∀ a : Int, (!(a == a)) = false := by simp
  go_enter Try.func42, Try.ntmps42
  go_wp2
  go_ret
  exact ⟨rfl, rfl⟩

set_option maxHeartbeats 400000 in
theorem bsearch_u32 (D : Nat → Prop) (A : Option Addr) (c : Nat) (l : List Int) (x : Int) (w : World) (hr : Reads w D 1 A l.length (l.map (Value.int .u32))) (hup : rising l = true) (hn : l.length ≤ 1000000) :
    Calls Try.prog 40 #[.slice A l.length c, .int .u32 x] w fun e w' => e = .returned (.tuple #[.int .i64 (lb l x), .bool (decide (l[lb l x]? = some x))]) ∧ w = w' := by
  have HR := hide hr
  have HU := hide hup
  clear hr hup
  obtain ⟨n, hln⟩ : ∃ n, n = l.length := ⟨_, rfl⟩
  have HN := hide hln
  rw [← hln] at hn
  rw [← hln]
  clear hln
  go_enter Try.func40, Try.ntmps40
  go_wp2_with fail
  go_loop [7, 8] (fun u v => ∃ i j : Nat, i ≤ j ∧ j ≤ n ∧ u = .int .i64 i ∧ v = .int .i64 j ∧ Hid (∀ k, k < i → l.getD k 0 < x) ∧ Hid (j < n → x ≤ l.getD j 0)) (fun u v => (intOf v - intOf u).toNat)
  case atStart => exact ⟨0, n, Nat.zero_le _, Nat.le_refl _, rfl, rfl, fun k hk => by omega, fun h => by omega⟩
  case round =>
    obtain ⟨i, j, hij, hjn, rfl, rfl, h1, h2⟩ := hrel
    by_cases hlt : i < j
    · have hm1 : i ≤ (i + j) / 2 := by omega
      have hm2 : (i + j) / 2 < j := by omega
      obtain ⟨ad, rfl, _, hcell⟩ := ints_at (unhide HR) (i := (i + j) / 2) (by rw [← HN.out]; omega)
      obtain ⟨y, hy⟩ : ∃ y, y = l.getD ((i + j) / 2) 0 := ⟨_, rfl⟩
      rw [← hy] at hcell
      have HY := hide hy
      clear hy
      by_cases hc : y < x
      · go_wp2_with (go_at_call 42; refine (less_u32 _ _ _).mono ?_; rintro e w' ⟨rfl, rfl⟩)
        go_round
        case rel =>
          refine ⟨(i + j) / 2 + 1, j, by omega, hjn, by go_num, rfl, fun k hk => ?_, h2⟩
          by_cases e : k = (i + j) / 2
          · subst e
            rw [← HY.out]
            exact hc
          · have := rising_lt (unhide HU) (i := k) (j := (i + j) / 2) (by omega) (by rw [← HN.out]; omega)
            rw [← HY.out] at this
            omega
        case measure => simp [intOf]; omega
      · go_wp2_with (go_at_call 42; refine (less_u32 _ _ _).mono ?_; rintro e w' ⟨rfl, rfl⟩)
        go_round
        case rel => exact ⟨i, (i + j) / 2, hm1, by omega, rfl, by go_num, h1, fun _ => by rw [← HY.out]; omega⟩
        case measure => simp [intOf]; omega
    · obtain rfl : i = j := by omega
      have hlb : lb l x = i := lb_unique (by rw [← HN.out]; exact hjn) h1 (by rw [← HN.out]; exact h2)
      by_cases hin : i < n
      · obtain ⟨ad, rfl, _, hcell⟩ := ints_at (unhide HR) (i := i) (by rw [← HN.out]; omega)
        obtain ⟨y, hy⟩ : ∃ y, y = l.getD i 0 := ⟨_, rfl⟩
        rw [← hy] at hcell
        have hval : decide (l[lb l x]? = some x) = (y == x) := by
          rw [hlb, hy, List.getD_eq_getElem?_getD, List.getElem?_eq_getElem (by rw [← HN.out]; exact hin)]
          simp
          rfl
        have HV := hide hval
        have HB := hide hlb
        clear hy hval hlb
        by_cases hc : y = x
        · have hcb : (y == x) = true := by simp [hc]
          have HC := hide hc
          clear hc
          go_wp2
          go_ret2
          exact ⟨by rw [HV.out, HB.out, hcb]; rfl, rfl⟩
        · have hcb : (y == x) = false := by simp [hc]
          have hnn : (y == y) = true := by simp
          have hnx : (x == x) = true := by simp
          have HC := hide hc
          clear hc
          go_wp2
          go_ret2
          exact ⟨by rw [HV.out, HB.out, hcb]; rfl, rfl⟩
      · have hval : decide (l[lb l x]? = some x) = false := by
          rw [hlb, List.getElem?_eq_none (by rw [← HN.out]; omega)]
          simp
        have HV := hide hval
        have HB := hide hlb
        clear hval hlb
        go_wp2
        go_ret2
        exact ⟨by rw [HV.out, HB.out]; rfl, rfl⟩

/-! ### rows compared -/
theorem eq_take {l m : List Int} (hl : l.length = m.length) (h : ∀ k, k < l.length → l.getD k 0 = m.getD k 0) : l = m := by
  apply List.ext_getElem hl
  intro i h1 h2
  have := h i h1
  simpa [List.getD_eq_getElem?_getD, List.getElem?_eq_getElem h1, List.getElem?_eq_getElem h2] using this
theorem ne_at {l m : List Int} {k : Nat} (h : l.getD k 0 ≠ m.getD k 0) : l ≠ m := fun e => h (by rw [e])

set_option maxHeartbeats 400000 in
theorem sameNums_any (D E : Nat → Prop) (A A' : Option Addr) (c c' : Nat) (l m : List Int) (w : World) (hr : Reads w D 1 A l.length (l.map (Value.int .u32))) (hs : Reads w E 1 A' m.length (m.map (Value.int .u32))) (hn : l.length ≤ 1000000) (hm : m.length ≤ 1000000) :
    Calls Try.prog 26 #[.slice A l.length c, .slice A' m.length c'] w fun e w' => e = .returned (.bool (decide (l = m))) ∧ ∃ n, w' = w.drewN n := by
  have HR := hide hr
  have HS := hide hs
  clear hr hs
  by_cases hl : l.length = m.length
  · obtain ⟨n, hln⟩ : ∃ n, n = l.length := ⟨_, rfl⟩
    have HN := hide hln
    have HM := hide (hln.trans hl)
    rw [← hln] at hl hn
    rw [← hl, ← hln]
    clear hl hln hm
    go_enter Try.func26, Try.ntmps26
    go_wp2_with fail
    go_loopw [5] (fun u W => ∃ i q : Nat, i ≤ n ∧ u = .int .i64 i ∧ W = w.drewN q ∧ Hid (∀ k, k < i → l.getD k 0 = m.getD k 0)) (fun u _ => (n - intOf u).toNat)
    case atStart => exact ⟨0, 0, Nat.zero_le _, rfl, rfl, fun k hk => by omega⟩
    case round =>
      obtain ⟨i, q, hin, rfl, rfl, h1⟩ := hrel
      by_cases hlt : i < n
      · obtain ⟨ad, rfl, _, hcell⟩ := ints_at (unhide HR) (i := i) (by rw [← HN.out]; omega)
        obtain ⟨ad', rfl, _, hcell'⟩ := ints_at (unhide HS) (i := i) (by rw [← HM.out]; omega)
        have hlt' : (i : Int) < (n : Int) := by omega
        have h0 : (0 : Int) ≤ (i : Int) := by omega
        obtain ⟨y, hy⟩ : ∃ y, y = l.getD i 0 := ⟨_, rfl⟩
        obtain ⟨z, hz⟩ : ∃ z, z = m.getD i 0 := ⟨_, rfl⟩
        rw [← hy] at hcell
        rw [← hz] at hcell'
        have HY := hide hy
        have HZ := hide hz
        clear hy hz
        by_cases hyz : y = z
        · have hb : (y != z) = false := by simp [hyz]
          have HYZ := hide hyz
          clear hyz
          go_wp2_with fail
          go_quiet (fail)
          go_wp2
          go_roundw
          case rel =>
            refine ⟨i + 1, _, by omega, by go_num, rfl, fun k hk => ?_⟩
            by_cases e : k = i
            · subst e
              rw [← HY.out, ← HZ.out]
              exact HYZ.out
            · exact h1 k (by omega)
          case measure => simp [intOf]; omega
        · have hb : (y != z) = true := by simp [hyz]
          have HD := hide (show decide (l = m) = false from by rw [decide_eq_false_iff_not]; exact ne_at (k := i) (by rw [← HY.out, ← HZ.out]; exact hyz))
          clear hyz
          go_wp2_with fail
          go_quiet (fail)
          go_wp2
          go_ret
          exact ⟨by rw [HD.out]; rfl, q + nq, by rw [World.drewN_drewN]⟩
      · obtain rfl : i = n := by omega
        have HD := hide (show decide (l = m) = true from by rw [decide_eq_true_eq]; exact eq_take (by rw [← HN.out, ← HM.out]) (by rw [← HN.out]; exact h1))
        go_wp2
        go_ret
        exact ⟨by rw [HD.out]; rfl, _, rfl⟩
  · have hl' : ((l.length : Int) != (m.length : Int)) = true := by rw [bne_iff_ne]; omega
    have HD := hide (show decide (l = m) = false from by rw [decide_eq_false_iff_not]; exact fun e => hl (by rw [e]))
    clear hl
    go_enter Try.func26, Try.ntmps26
    go_wp2
    go_ret
    exact ⟨by rw [HD.out]; rfl, 0, rfl⟩

set_option maxHeartbeats 400000 in
theorem equal_any (D E : Nat → Prop) (A A' : Option Addr) (c c' : Nat) (l m : List Int) (w : World) (hr : Reads w D 1 A l.length (l.map (Value.int .u32))) (hs : Reads w E 1 A' m.length (m.map (Value.int .u32))) (hn : l.length ≤ 1000000) (hm : m.length ≤ 1000000) :
    Calls Try.prog 31 #[.slice A l.length c, .slice A' m.length c'] w fun e w' => e = .returned (.bool (decide (l = m))) ∧ ∃ n, w' = w.drewN n := by
  have HR := hide hr
  have HS := hide hs
  clear hr hs
  by_cases hl : l.length = m.length
  · obtain ⟨n, hln⟩ : ∃ n, n = l.length := ⟨_, rfl⟩
    have HN := hide hln
    have HM := hide (hln.trans hl)
    rw [← hln] at hl hn
    rw [← hl, ← hln]
    clear hl hln hm
    go_enter Try.func31, Try.ntmps31
    go_wp2_with fail
    go_loopw [13] (fun u W => ∃ i q : Nat, i ≤ n ∧ u = .int .i64 i ∧ W = w.drewN q ∧ Hid (∀ k, k < i → l.getD k 0 = m.getD k 0)) (fun u _ => (n - intOf u).toNat)
    case atStart => exact ⟨0, 0, Nat.zero_le _, rfl, rfl, fun k hk => by omega⟩
    case round =>
      obtain ⟨i, q, hin, rfl, rfl, h1⟩ := hrel
      by_cases hlt : i < n
      · obtain ⟨ad, rfl, _, hcell⟩ := ints_at (unhide HR) (i := i) (by rw [← HN.out]; omega)
        obtain ⟨ad', rfl, _, hcell'⟩ := ints_at (unhide HS) (i := i) (by rw [← HM.out]; omega)
        have hlt' : (i : Int) < (n : Int) := by omega
        have h0 : (0 : Int) ≤ (i : Int) := by omega
        obtain ⟨y, hy⟩ : ∃ y, y = l.getD i 0 := ⟨_, rfl⟩
        obtain ⟨z, hz⟩ : ∃ z, z = m.getD i 0 := ⟨_, rfl⟩
        rw [← hy] at hcell
        rw [← hz] at hcell'
        have HY := hide hy
        have HZ := hide hz
        clear hy hz
        by_cases hyz : y = z
        · have hb : (y != z) = false := by simp [hyz]
          have HYZ := hide hyz
          clear hyz
          go_wp2_with fail
          go_quiet (fail)
          go_wp2
          go_roundw
          case rel =>
            refine ⟨i + 1, _, by omega, by go_num, rfl, fun k hk => ?_⟩
            by_cases e : k = i
            · subst e
              rw [← HY.out, ← HZ.out]
              exact HYZ.out
            · exact h1 k (by omega)
          case measure => simp [intOf]; omega
        · have hb : (y != z) = true := by simp [hyz]
          have HD := hide (show decide (l = m) = false from by rw [decide_eq_false_iff_not]; exact ne_at (k := i) (by rw [← HY.out, ← HZ.out]; exact hyz))
          clear hyz
          go_wp2_with fail
          go_quiet (fail)
          go_wp2
          go_ret
          exact ⟨by rw [HD.out]; rfl, q + nq, by rw [World.drewN_drewN]⟩
      · obtain rfl : i = n := by omega
        have HD := hide (show decide (l = m) = true from by rw [decide_eq_true_eq]; exact eq_take (by rw [← HN.out, ← HM.out]) (by rw [← HN.out]; exact h1))
        go_wp2
        go_ret
        exact ⟨by rw [HD.out]; rfl, _, rfl⟩
  · have hl' : ((l.length : Int) != (m.length : Int)) = true := by rw [bne_iff_ne]; omega
    have HD := hide (show decide (l = m) = false from by rw [decide_eq_false_iff_not]; exact fun e => hl (by rw [e]))
    clear hl
    go_enter Try.func31, Try.ntmps31
    go_wp2
    go_ret
    exact ⟨by rw [HD.out]; rfl, 0, rfl⟩

/-! ### one that is not -/
def hasOther (l : List Int) (a : Int) : Bool := l.any (fun x => x != a)

theorem hasOther_no {l : List Int} {a : Int} (h : ∀ k, k < l.length → l.getD k 0 = a) : hasOther l a = false := by
  unfold hasOther
  rw [List.any_eq_false]
  intro x hx
  obtain ⟨k, hk, rfl⟩ := List.mem_iff_getElem.1 hx
  have := h k hk
  simp [List.getD_eq_getElem?_getD, List.getElem?_eq_getElem hk] at this
  simp [this]
theorem hasOther_yes {l : List Int} {a : Int} {k : Nat} (hk : k < l.length) (h : l.getD k 0 ≠ a) : hasOther l a = true := by
  unfold hasOther
  rw [List.any_eq_true]
  refine ⟨l[k], List.getElem_mem hk, ?_⟩
  simp [List.getD_eq_getElem?_getD, List.getElem?_eq_getElem hk] at h
  simpa using h

set_option maxHeartbeats 400000 in
theorem may1_any (w : World) (x a : Int) (g : Nat) (hc : w.cell? ⟨g, 0, none⟩ = some (.int .u32 a)) :
    Calls Try.prog 28 #[.int .u32 x, .pointer (some ⟨g, 0, none⟩)] w fun e w' => e = .returned (.bool (x != a)) ∧ w = w' := by
  go_enter Try.func28, Try.ntmps28
  go_wp2
  go_ret
  exact ⟨rfl, rfl⟩

set_option maxHeartbeats 400000 in
theorem indexOther_any (D : Nat → Prop) (A : Option Addr) (c : Nat) (l : List Int) (a : Int) (g : Nat) (w : World) (hr : Reads w D 1 A l.length (l.map (Value.int .u32))) (hn : l.length ≤ 1000000) (hc : w.cell? ⟨g, 0, none⟩ = some (.int .u32 a)) :
    Calls Try.prog 39 #[.slice A l.length c, .func (.func 28) #[] #[.pointer (some ⟨g, 0, none⟩)]] w fun e w' => ∃ k : Int, e = .returned (.int .i64 k) ∧ decide (0 ≤ k) = hasOther l a ∧ w = w' := by
  have HR := hide hr
  clear hr
  obtain ⟨n, hln⟩ : ∃ n, n = l.length := ⟨_, rfl⟩
  have HN := hide hln
  rw [← hln] at hn
  rw [← hln]
  clear hln
  go_enter Try.func39, Try.ntmps39
  go_wp2_with fail
  go_loop [8] (fun u => ∃ i : Nat, i ≤ n ∧ u = .int .i64 i ∧ Hid (∀ k, k < i → l.getD k 0 = a)) (fun u => (n - intOf u).toNat)
  case atStart => exact ⟨0, Nat.zero_le _, rfl, fun k hk => by omega⟩
  case round =>
    obtain ⟨i, hin, rfl, h1⟩ := hrel
    by_cases hlt : i < n
    · obtain ⟨ad, rfl, _, hcell⟩ := ints_at (unhide HR) (i := i) (by rw [← HN.out]; omega)
      obtain ⟨y, hy⟩ : ∃ y, y = l.getD i 0 := ⟨_, rfl⟩
      rw [← hy] at hcell
      have HY := hide hy
      clear hy
      by_cases hya : y = a
      · have hb : (y != a) = false := by simp [hya]
        have HYA := hide hya
        clear hya
        go_wp2_with (go_at_call 28; refine (may1_any _ _ _ _ hc).mono ?_; rintro e w' ⟨rfl, rfl⟩)
        go_round
        case rel =>
          refine ⟨i + 1, by omega, by go_num, fun k hk => ?_⟩
          by_cases e : k = i
          · subst e
            rw [← HY.out]
            exact HYA.out
          · exact h1 k (by omega)
        case measure => simp [intOf]; omega
      · have hb : (y != a) = true := by simp [hya]
        have HH := hide (hasOther_yes (l := l) (a := a) (k := i) (by rw [← HN.out]; exact hlt) (by rw [← HY.out]; exact hya))
        clear hya
        go_wp2_with (go_at_call 28; refine (may1_any _ _ _ _ hc).mono ?_; rintro e w' ⟨rfl, rfl⟩)
        go_ret
        exact ⟨i, rfl, by rw [HH.out]; simp, rfl⟩
    · have HH := hide (hasOther_no (l := l) (a := a) (fun k hk => h1 k (by rw [← HN.out] at hk; omega)))
      go_wp2_with fail
      go_ret
      exact ⟨-1, rfl, by rw [HH.out]; simp, rfl⟩

set_option maxHeartbeats 400000 in
theorem containsOther_any (D : Nat → Prop) (A : Option Addr) (c : Nat) (l : List Int) (a : Int) (g : Nat) (w : World) (hr : Reads w D 1 A l.length (l.map (Value.int .u32))) (hn : l.length ≤ 1000000) (hc : w.cell? ⟨g, 0, none⟩ = some (.int .u32 a)) :
    Calls Try.prog 27 #[.slice A l.length c, .func (.func 28) #[] #[.pointer (some ⟨g, 0, none⟩)]] w fun e w' => e = .returned (.bool (hasOther l a)) ∧ w = w' := by
  have HR := hide hr
  clear hr
  go_enter Try.func27, Try.ntmps27
  go_wp2_with fail
  refine (indexOther_any D A c l a g w (unhide HR) hn hc).mono ?_
  rintro e w' ⟨k, rfl, hk, rfl⟩
  have HK := hide hk
  clear hk
  go_wp2_with fail
  go_ret
  exact ⟨by rw [← HK.out]; rfl, rfl⟩

/-! ### the reference's rising rows -/
theorem rising_take : ∀ {l : List Int} {i : Nat}, i + 1 < l.length → l.getD i 0 ≥ l.getD (i + 1) 0 → rising l = false := by
  intro l i hi h
  cases hr : rising l with
  | false => rfl
  | true => have := rising_step hr hi; omega
theorem rising_of : ∀ {l : List Int}, (∀ i, i + 1 < l.length → l.getD i 0 < l.getD (i + 1) 0) → rising l = true
  | [], _ => rfl
  | [_], _ => rfl
  | a :: b :: l, h => by
    simp only [rising, Bool.and_eq_true, decide_eq_true_eq]
    exact ⟨by simpa using h 0 (by simp), rising_of fun i hi => by simpa using h (i + 1) (by simpa using hi)⟩

set_option maxHeartbeats 400000 in
theorem rises_any (D : Nat → Prop) (A : Option Addr) (c : Nat) (l : List Int) (w : World) (hr : Reads w D 1 A l.length (l.map (Value.int .u32))) (hn : l.length ≤ 1000000) :
    Calls Try.prog 32 #[.slice A l.length c] w fun e w' => e = .returned (.bool (rising l)) ∧ ∃ n, w' = w.drewN n := by
  have HR := hide hr
  clear hr
  obtain ⟨n, hln⟩ : ∃ n, n = l.length := ⟨_, rfl⟩
  have HN := hide hln
  rw [← hln] at hn
  rw [← hln]
  clear hln
  go_enter Try.func32, Try.ntmps32
  go_wp2_with fail
  go_loopw [3] (fun u W => ∃ i q : Nat, (i ≤ n ∨ i = 1) ∧ 1 ≤ i ∧ u = .int .i64 i ∧ W = w.drewN q ∧ Hid (∀ k, k + 1 < i → l.getD k 0 < l.getD (k + 1) 0)) (fun u _ => (n - intOf u).toNat)
  case atStart => exact ⟨1, 0, .inr rfl, Nat.le_refl _, rfl, rfl, fun k hk => by omega⟩
  case round =>
    obtain ⟨i, q, hin, hi1, rfl, rfl, h1⟩ := hrel
    by_cases hlt : i < n
    · obtain ⟨ad, rfl, _, hcell⟩ := ints_at (unhide HR) (i := i - 1) (by rw [← HN.out]; omega)
      obtain ⟨ad', e, _, hcell'⟩ := ints_at (unhide HR) (i := i) (by rw [← HN.out]; omega)
      obtain rfl : ad = ad' := by injection e
      clear e hin
      obtain ⟨y, hy⟩ : ∃ y, y = l.getD (i - 1) 0 := ⟨_, rfl⟩
      obtain ⟨z, hz⟩ : ∃ z, z = l.getD i 0 := ⟨_, rfl⟩
      rw [← hy] at hcell
      rw [← hz] at hcell'
      have HY := hide hy
      have HZ := hide hz
      clear hy hz
      have g3 : IntKind.i64.wrap ((i : Int) - 1) = (i : Int) - 1 := IntWalk.i64_in _ (by omega)
      have g4 : (0 : Int) ≤ (i : Int) - 1 := by omega
      have g5 : ((i : Int) - 1).toNat = i - 1 := by omega
      have g6 : (i : Int) - 1 < (n : Int) := by omega
      have g7 : (i : Int) < (n : Int) := by omega
      have g8 : (0 : Int) ≤ (i : Int) := by omega
      have g9 : (1 : Int) ≤ (i : Int) := by omega
      by_cases hyz : y < z
      · have hb : decide (z ≤ y) = false := by simp; omega
        go_wp2_with fail
        go_quiet (fail)
        clear g3 g5
        go_wp2
        go_roundw
        case rel =>
          refine ⟨i + 1, _, .inl (by omega), by omega, by go_num, rfl, fun k hk => ?_⟩
          by_cases e : k = i - 1
          · subst e
            rw [← HY.out, show i - 1 + 1 = i from by omega, ← HZ.out]
            exact hyz
          · exact h1 k (by omega)
        case measure => simp [intOf]; omega
      · have hb : decide (z ≤ y) = true := by simp; omega
        have HH := hide (rising_take (l := l) (i := i - 1) (by rw [← HN.out]; omega) (by rw [← HY.out, show i - 1 + 1 = i from by omega, ← HZ.out]; omega))
        go_wp2_with fail
        go_quiet (fail)
        clear g3 g5
        go_wp2
        go_ret
        exact ⟨by rw [HH.out]; rfl, q + nq, by rw [World.drewN_drewN]⟩
    · have HH := hide (rising_of (l := l) (fun k hk => h1 k (by rw [← HN.out] at hk; omega)))
      go_wp2
      go_ret
      exact ⟨by rw [HH.out]; rfl, q, rfl⟩

end Go.Proofs.Ytfdgflhbooaomaa
