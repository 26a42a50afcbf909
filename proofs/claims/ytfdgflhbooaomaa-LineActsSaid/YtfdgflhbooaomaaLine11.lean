/- walks: the reference's Same and Fits; great; op; line.Add -/
import Derived.Test.YtfdgflhbooaomaaLine10
namespace Go.Proofs.Ytfdgflhbooaomaa
open Go.RowKit

/-- two lines are the same -/
def sameM (a b : LineM) : Bool := (a.r == b.r && a.n == b.n) && (a.item == b.item) && (a.qty == b.qty) && (a.price == b.price) && (a.vr == b.vr && a.vn == b.vn) && (a.st == b.st) && decide (a.ap = b.ap) && decide (a.re = b.re)

theorem below_drewN {B : Nat} {a w : World} (h : Below B a w) (n : Nat) : Below B a (w.drewN n) := ⟨h.os, h.tape, h.output, h.size, h.block⟩

set_option maxHeartbeats 1000000 in
theorem refSame_any (D E : Nat → Prop) (cs ds : List Value) (a b : LineM) (w : World) (ha : LineR.at_ w D cs a) (hb : LineR.at_ w E ds b) (h1 : a.ap.length ≤ 1000) (h2 : a.re.length ≤ 1000) (h3 : b.ap.length ≤ 1000) (h4 : b.re.length ≤ 1000) :
    Calls Try.prog 10 #[.agg cs.toArray, .agg ds.toArray] w fun e w' => e = .returned (.bool (sameM a b)) ∧ Below w.heap.size w w' := by
  obtain ⟨A, c, A', c', rfl, x1, x2⟩ := ha
  obtain ⟨B, d, B', d', rfl, y1, y2⟩ := hb
  obtain ⟨A0, c0, e0, -, r1⟩ := ints_open x1
  injection e0 with e1 _ e2
  subst e1 e2
  obtain ⟨A0, c0, e0, -, r2⟩ := ints_open x2
  injection e0 with e1 _ e2
  subst e1 e2
  obtain ⟨A0, c0, e0, -, s1⟩ := ints_open y1
  injection e0 with e1 _ e2
  subst e1 e2
  obtain ⟨A0, c0, e0, -, s2⟩ := ints_open y2
  injection e0 with e1 _ e2
  subst e1 e2
  have R1 := hide r1
  have R2 := hide r2
  have S1 := hide s1
  have S2 := hide s2
  clear x1 x2 y1 y2 r1 r2 s1 s2
  have hde := dot_eql
  cases b0 : (a.r == b.r && a.n == b.n) with
  | false =>
    have HM := hide (show sameM a b = false from by unfold sameM; simp only [b0, Bool.and_false, Bool.false_and])
    go_enter Try.func10, Try.ntmps10
    go_wp2_with fail
    go_ret
    exact ⟨by rw [HM.out]; rfl, ((Below.refl _ _).alloc (Nat.le_refl _) _).alloc (by simp) _⟩
  | true =>
    cases b1 : (a.item == b.item) with
    | false =>
      have HM := hide (show sameM a b = false from by unfold sameM; simp only [b1, Bool.and_false, Bool.false_and])
      go_enter Try.func10, Try.ntmps10
      go_wp2_with fail
      go_ret
      exact ⟨by rw [HM.out]; rfl, ((Below.refl _ _).alloc (Nat.le_refl _) _).alloc (by simp) _⟩
    | true =>
      cases b2 : (a.qty == b.qty) with
      | false =>
        have HM := hide (show sameM a b = false from by unfold sameM; simp only [b2, Bool.and_false, Bool.false_and])
        go_enter Try.func10, Try.ntmps10
        go_wp2_with fail
        go_ret
        exact ⟨by rw [HM.out]; rfl, ((Below.refl _ _).alloc (Nat.le_refl _) _).alloc (by simp) _⟩
      | true =>
        cases b3 : (a.price == b.price) with
        | false =>
          have HM := hide (show sameM a b = false from by unfold sameM; simp only [b3, Bool.and_false, Bool.false_and])
          go_enter Try.func10, Try.ntmps10
          go_wp2_with fail
          go_ret
          exact ⟨by rw [HM.out]; rfl, ((Below.refl _ _).alloc (Nat.le_refl _) _).alloc (by simp) _⟩
        | true =>
          cases b4 : (a.vr == b.vr && a.vn == b.vn) with
          | false =>
            have HM := hide (show sameM a b = false from by unfold sameM; simp only [b4, Bool.and_false, Bool.false_and])
            go_enter Try.func10, Try.ntmps10
            go_wp2_with fail
            go_ret
            exact ⟨by rw [HM.out]; rfl, ((Below.refl _ _).alloc (Nat.le_refl _) _).alloc (by simp) _⟩
          | true =>
            cases b5 : (a.st == b.st) with
            | false =>
              have HM := hide (show sameM a b = false from by unfold sameM; simp only [b5, Bool.and_false, Bool.false_and])
              go_enter Try.func10, Try.ntmps10
              go_wp2_with fail
              go_ret
              exact ⟨by rw [HM.out]; rfl, ((Below.refl _ _).alloc (Nat.le_refl _) _).alloc (by simp) _⟩
            | true =>
              by_cases hap : a.ap = b.ap
              · have q1 : decide (a.ap = b.ap) = true := by simp [hap]
                by_cases hre : a.re = b.re
                · have q2 : decide (a.re = b.re) = true := by simp [hre]
                  have HM := hide (show sameM a b = true from by unfold sameM; simp only [b0, b1, b2, b3, b4, b5, q1, q2, Bool.and_self])
                  clear hap hre
                  go_enter Try.func10, Try.ntmps10
                  go_wp2_with fail
                  refine (sameNums_any D E _ _ _ _ a.ap b.ap _ (R1.out.keep (Holds.alloc_ (Holds.alloc _) _) (fun _ h _ => h) (by omega)) (S1.out.keep (Holds.alloc_ (Holds.alloc _) _) (fun _ h _ => h) (by omega)) (by omega) (by omega)).mono ?_
                  rintro e w1 ⟨rfl, n1, rfl⟩
                  go_wp2_with fail
                  refine (sameNums_any D E _ _ _ _ a.re b.re _ (R2.out.keep (Holds.drewN_ (Holds.alloc_ (Holds.alloc _) _) _) (fun _ h _ => h) (by omega)) (S2.out.keep (Holds.drewN_ (Holds.alloc_ (Holds.alloc _) _) _) (fun _ h _ => h) (by omega)) (by omega) (by omega)).mono ?_
                  rintro e w1 ⟨rfl, n2, rfl⟩
                  go_wp2_with fail
                  go_ret
                  exact ⟨by rw [HM.out]; rfl, below_drewN (((Below.refl _ _).alloc (Nat.le_refl _) _).alloc (by simp) _) _⟩
                · have q2 : decide (a.re = b.re) = false := by simp [hre]
                  have HM := hide (show sameM a b = false from by unfold sameM; simp only [q2, Bool.and_false])
                  clear hap hre
                  go_enter Try.func10, Try.ntmps10
                  go_wp2_with fail
                  refine (sameNums_any D E _ _ _ _ a.ap b.ap _ (R1.out.keep (Holds.alloc_ (Holds.alloc _) _) (fun _ h _ => h) (by omega)) (S1.out.keep (Holds.alloc_ (Holds.alloc _) _) (fun _ h _ => h) (by omega)) (by omega) (by omega)).mono ?_
                  rintro e w1 ⟨rfl, n1, rfl⟩
                  go_wp2_with fail
                  refine (sameNums_any D E _ _ _ _ a.re b.re _ (R2.out.keep (Holds.drewN_ (Holds.alloc_ (Holds.alloc _) _) _) (fun _ h _ => h) (by omega)) (S2.out.keep (Holds.drewN_ (Holds.alloc_ (Holds.alloc _) _) _) (fun _ h _ => h) (by omega)) (by omega) (by omega)).mono ?_
                  rintro e w1 ⟨rfl, n2, rfl⟩
                  go_wp2_with fail
                  go_ret
                  exact ⟨by rw [HM.out]; rfl, below_drewN (((Below.refl _ _).alloc (Nat.le_refl _) _).alloc (by simp) _) _⟩
              · have q1 : decide (a.ap = b.ap) = false := by simp [hap]
                have HM := hide (show sameM a b = false from by unfold sameM; simp only [q1, Bool.and_false, Bool.false_and])
                clear hap
                go_enter Try.func10, Try.ntmps10
                go_wp2_with fail
                refine (sameNums_any D E _ _ _ _ a.ap b.ap _ (R1.out.keep (Holds.alloc_ (Holds.alloc _) _) (fun _ h _ => h) (by omega)) (S1.out.keep (Holds.alloc_ (Holds.alloc _) _) (fun _ h _ => h) (by omega)) (by omega) (by omega)).mono ?_
                rintro e w1 ⟨rfl, n1, rfl⟩
                go_wp2_with fail
                go_ret
                exact ⟨by rw [HM.out]; rfl, below_drewN (((Below.refl _ _).alloc (Nat.le_refl _) _).alloc (by simp) _) _⟩

def fitsM (x : LineM) : Bool := rising x.ap && rising x.re
def greatM (x : LineM) : Bool := decide (60 < x.ap.length) || decide (60 < x.re.length) || !fitsM x

set_option maxHeartbeats 1000000 in
theorem fits_any (D : Nat → Prop) (cs : List Value) (a : LineM) (w : World) (ha : LineR.at_ w D cs a) (h1 : a.ap.length ≤ 1000) (h2 : a.re.length ≤ 1000) :
    Calls Try.prog 20 #[.agg cs.toArray] w fun e w' => e = .returned (.bool (fitsM a)) ∧ Below w.heap.size w w' := by
  obtain ⟨A, c, A', c', rfl, x1, x2⟩ := ha
  obtain ⟨A0, c0, e0, -, r1⟩ := ints_open x1
  injection e0 with e1 _ e2
  subst e1 e2
  obtain ⟨A0, c0, e0, -, r2⟩ := ints_open x2
  injection e0 with e1 _ e2
  subst e1 e2
  have R1 := hide r1
  have R2 := hide r2
  clear x1 x2 r1 r2
  cases b1 : rising a.ap with
  | false =>
    have HM := hide (show fitsM a = false from by unfold fitsM; rw [b1]; rfl)
    go_enter Try.func20, Try.ntmps20
    go_wp2_with fail
    refine (rises_any D _ _ a.ap _ (R1.out.keep (Holds.alloc _) (fun _ h _ => h) (by omega)) (by omega)).mono ?_
    rintro e w1 ⟨rfl, n1, rfl⟩
    go_wp2_with fail
    go_ret
    exact ⟨by rw [HM.out]; rfl, below_drewN ((Below.refl _ _).alloc (Nat.le_refl _) _) _⟩
  | true =>
    have HM := hide (show fitsM a = rising a.re from by unfold fitsM; rw [b1]; rfl)
    go_enter Try.func20, Try.ntmps20
    go_wp2_with fail
    refine (rises_any D _ _ a.ap _ (R1.out.keep (Holds.alloc _) (fun _ h _ => h) (by omega)) (by omega)).mono ?_
    rintro e w1 ⟨rfl, n1, rfl⟩
    go_wp2_with fail
    refine (rises_any D _ _ a.re _ (R2.out.keep (Holds.drewN_ (Holds.alloc _) _) (fun _ h _ => h) (by omega)) (by omega)).mono ?_
    rintro e w1 ⟨rfl, n2, rfl⟩
    go_wp2_with fail
    go_ret
    exact ⟨by rw [HM.out]; rfl, below_drewN ((Below.refl _ _).alloc (Nat.le_refl _) _) _⟩

set_option maxHeartbeats 1000000 in
theorem great_any (D : Nat → Prop) (cs : List Value) (a : LineM) (w : World) (ha : LineR.at_ w D cs a) (h1 : a.ap.length ≤ 9223372036854775807) (h2 : a.re.length ≤ 9223372036854775807) :
    Calls Try.prog 7 #[.agg cs.toArray] w fun e w' => e = .returned (.bool (greatM a)) ∧ Below w.heap.size w w' := by
  have HA := hide ha
  obtain ⟨A, c, A', c', rfl, x1, x2⟩ := ha
  have X1 := hide x1
  have X2 := hide x2
  clear x1 x2
  by_cases b1 : 60 < a.ap.length
  · have q1 : decide (60 < a.ap.length) = true := by simpa using b1
    have HM := hide (show greatM a = true from by unfold greatM; rw [q1]; rfl)
    go_enter Try.func7, Try.ntmps7
    go_wp2_with fail
    go_ret
    exact ⟨by rw [HM.out]; rfl, (Below.refl _ _).alloc (Nat.le_refl _) _⟩
  · have q1 : decide (60 < a.ap.length) = false := by simpa using b1
    have q1' : decide ((60 : Int) < (a.ap.length : Int)) = false := by rw [decide_eq_false_iff_not]; omega
    by_cases b2 : 60 < a.re.length
    · have q2 : decide (60 < a.re.length) = true := by simpa using b2
      have HM := hide (show greatM a = true from by unfold greatM; rw [q1, q2]; rfl)
      go_enter Try.func7, Try.ntmps7
      go_wp2_with fail
      go_ret
      exact ⟨by rw [HM.out]; rfl, (Below.refl _ _).alloc (Nat.le_refl _) _⟩
    · have q2 : decide (60 < a.re.length) = false := by simpa using b2
      have q2' : decide ((60 : Int) < (a.re.length : Int)) = false := by rw [decide_eq_false_iff_not]; omega
      have HM := hide (show greatM a = !fitsM a from by unfold greatM; rw [q1, q2]; rfl)
      go_enter Try.func7, Try.ntmps7
      go_wp2_with fail
      refine (fits_any D _ a _ ⟨A, c, A', c', rfl, U32s.keep (Holds.alloc _) (fun _ h _ => h) X1.out, U32s.keep (Holds.alloc _) (fun _ h _ => h) X2.out⟩ (by omega) (by omega)).mono ?_
      rintro e w1 ⟨rfl, hb1⟩
      go_wp2_with fail
      go_ret
      exact ⟨by rw [HM.out]; rfl, ((Below.refl _ _).alloc (Nat.le_refl _) _).trans (hb1.mono (by simp))⟩

end Go.Proofs.Ytfdgflhbooaomaa
