/- walks: line.Act all together; line.Add, Total, May -/
import Derived.Test.YtfdgflhbooaomaaLine9
namespace Go.Proofs.Ytfdgflhbooaomaa
open Go.RowKit

theorem act_any (D : Nat → Prop) (cs : List Value) (oa : Array Value) (x : LineM) (o : OpM) (w : World) (hx : LineR.at_ w D cs x) (ho : OpAt oa o) (ha : x.ap.length ≤ 1000) (hb : x.re.length ≤ 1000) (hua : rising x.ap = true) (hub : rising x.re = true) :
    Calls Try.prog 9 #[.agg cs.toArray, .agg oa] w fun e w' => ∃ cs', e = .returned (.tuple #[.agg cs'.toArray, .int .i64 (actM x o).2]) ∧ LineR.at_ w' (dom D w.heap.size [] w') cs' (actM x o).1 ∧ Below w.heap.size w w' := by
  by_cases hk : kidx o.kind < 0
  · have e : actM x o = (zeroLine, 2) := by unfold actM; rw [if_pos hk]
    rw [e]
    exact act_bad D cs oa x o w hx ho ha hb hk
  · by_cases hst : x.st = 0
    · by_cases h4 : o.kind = 4
      · have e : actM x o = ({ x with qty := o.qty, vr := o.r, vn := o.n, ap := [], re := [] }, 0) := by unfold actM; rw [if_neg hk, if_neg (by simp [hst]), if_pos h4]
        rw [e]
        exact act_set D cs oa x o w hx ho ha hb h4 hst
      · by_cases h5 : o.kind = 5
        · have e : actM x o = ({ x with st := 1 }, 0) := by unfold actM; rw [if_neg hk, if_neg (by simp [hst]), if_neg h4, if_pos h5]
          rw [e]
          exact act_remove D cs oa x o w hx ho ha hb h5 hst
        · cases hv : (x.vr == o.vr && x.vn == o.vn) with
          | true =>
            by_cases h6 : o.kind = 6
            · have e : actM x o = ({ x with ap := ins x.ap o.who }, 0) := by unfold actM; rw [if_neg hk, if_neg (by simp [hst]), if_neg h4, if_neg h5, if_neg (by simp [hv]), if_pos h6]
              rw [e]
              exact act_approve D cs oa x o w hx ho ha hb h6 hst hua hv
            · have h7 : o.kind = 7 := by
                unfold kidx at hk
                rw [if_neg h4, if_neg h5, if_neg h6] at hk
                by_cases h : o.kind = 7
                · exact h
                · rw [if_neg h] at hk; omega
              have e : actM x o = ({ x with re := ins x.re o.who }, 0) := by unfold actM; rw [if_neg hk, if_neg (by simp [hst]), if_neg h4, if_neg h5, if_neg (by simp [hv]), if_neg h6]
              rw [e]
              exact act_reject D cs oa x o w hx ho ha hb h7 hst hub hv
          | false =>
            have e : actM x o = (x, 278) := by unfold actM; rw [if_neg hk, if_neg (by simp [hst]), if_neg h4, if_neg h5, if_pos hv]
            rw [e]
            by_cases h6 : o.kind = 6
            · exact act_approve_stale D cs oa x o w hx ho ha hb h6 hst hua hv
            · have h7 : o.kind = 7 := by
                unfold kidx at hk
                rw [if_neg h4, if_neg h5, if_neg h6] at hk
                by_cases h : o.kind = 7
                · exact h
                · rw [if_neg h] at hk; omega
              exact act_reject_stale D cs oa x o w hx ho ha hb h7 hst hub hv
    · have e : actM x o = (x, 278) := by unfold actM; rw [if_neg hk, if_pos hst]
      rw [e]
      exact act_gone D cs oa x o w hx ho ha hb (by omega) hst

set_option maxHeartbeats 400000 in
theorem total_any (D : Nat → Prop) (cs : List Value) (x : LineM) (w : World) (hx : LineR.at_ w D cs x) :
    Calls Try.prog 13 #[.agg cs.toArray] w fun e w' => e = .returned (.int .u64 (IntKind.u64.wrap (IntKind.u64.wrap x.qty * IntKind.u64.wrap x.price))) ∧ Below w.heap.size w w' := by
  obtain ⟨A, c, A', c', rfl, -, -⟩ := hx
  go_enter Try.func13, Try.ntmps13
  go_wp2
  go_ret
  exact ⟨rfl, (Below.refl _ _).alloc (Nat.le_refl _) _⟩

def mayM (x : LineM) (vr vn who : Int) : Bool := x.st == 0 && (x.vr == vr && x.vn == vn) && x.re.isEmpty && hasOther x.ap who

set_option maxHeartbeats 1000000 in
theorem may_any (D : Nat → Prop) (cs : List Value) (x : LineM) (vr vn who : Int) (w : World) (hx : LineR.at_ w D cs x) (ha : x.ap.length ≤ 1000) (hb : x.re.length ≤ 1000) :
    Calls Try.prog 11 #[.agg cs.toArray, .agg #[.int .u8 vr, .int .u32 vn], .int .u32 who] w fun e w' => e = .returned (.bool (mayM x vr vn who)) ∧ Below w.heap.size w w' := by
  obtain ⟨A, c, A', c', rfl, h1, h2⟩ := hx
  obtain ⟨A0, c0, e0, -, hr⟩ := ints_open h1
  injection e0 with e1 _ e2
  subst e1 e2
  have HR := hide hr
  clear h1 h2 hr
  have hde := dot_eql
  have hfin : ∀ w1, Below (w.heap.size) w w1 → Below w.heap.size w w1 := fun _ h => h
  by_cases hst : x.st = 0
  · have b1 : (x.st == 0) = true := by simp [hst]
    cases b2 : (x.vr == vr && x.vn == vn) with
    | true =>
      by_cases hre : x.re.length = 0
      · have b3 : ((x.re.length : Int) == 0) = true := beq_iff_eq.2 (by omega)
        have HM := hide (show mayM x vr vn who = hasOther x.ap who from by unfold mayM; rw [b1, b2, List.eq_nil_of_length_eq_zero hre]; simp)
        clear hst hre hfin
        go_enter Try.func11, Try.ntmps11
        go_wp2_with (go_at_call 27; refine (containsOther_any D _ _ x.ap who _ _ (HR.out.keep (((Holds.alloc_ (Holds.alloc_ (Holds.alloc _) _) _))) (fun _ h _ => h) (by omega)) (by omega) (by simp [go_sem])).mono ?_; rintro e w1 ⟨rfl, rfl⟩)
        go_ret
        exact ⟨by rw [HM.out]; rfl, (((Below.refl _ _).alloc (Nat.le_refl _) _).alloc (by simp) _).alloc (by simp <;> omega) _⟩
      · have b3 : ((x.re.length : Int) == 0) = false := beq_eq_false_iff_ne.2 (by omega)
        have HM := hide (show mayM x vr vn who = false from by
          unfold mayM
          cases h : x.re with
          | nil => simp [h] at hre
          | cons a l => simp)
        clear hst hre hfin
        go_enter Try.func11, Try.ntmps11
        go_wp2_with fail
        go_ret
        exact ⟨by rw [HM.out]; rfl, (((Below.refl _ _).alloc (Nat.le_refl _) _).alloc (by simp) _).alloc (by simp <;> omega) _⟩
    | false =>
      have HM := hide (show mayM x vr vn who = false from by unfold mayM; rw [b2]; simp)
      clear hst hfin
      go_enter Try.func11, Try.ntmps11
      go_wp2_with fail
      go_ret
      exact ⟨by rw [HM.out]; rfl, (((Below.refl _ _).alloc (Nat.le_refl _) _).alloc (by simp) _).alloc (by simp <;> omega) _⟩
  · have b1 : (x.st == 0) = false := by simp [hst]
    have HM := hide (show mayM x vr vn who = false from by unfold mayM; rw [b1]; simp)
    clear hst hfin
    go_enter Try.func11, Try.ntmps11
    go_wp2_with fail
    go_ret
    exact ⟨by rw [HM.out]; rfl, (((Below.refl _ _).alloc (Nat.le_refl _) _).alloc (by simp) _).alloc (by simp <;> omega) _⟩

end Go.Proofs.Ytfdgflhbooaomaa
