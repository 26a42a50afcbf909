/- plain facts on rising rows and on acts -/
import Derived.Test.YtfdgflhbooaomaaLawS
namespace Go.Proofs.Ytfdgflhbooaomaa

theorem ins_nil (x : Int) : ins [] x = [x] := by simp [ins, lb]
theorem lb_cons (a : Int) (l : List Int) (x : Int) : lb (a :: l) x = if a < x then lb l x + 1 else 0 := by
  by_cases h : a < x <;> simp [lb, List.takeWhile_cons, h]
theorem ins_cons (a : Int) (l : List Int) (x : Int) : ins (a :: l) x = if a < x then a :: ins l x else if a = x then a :: l else x :: a :: l := by
  unfold ins
  rw [lb_cons]
  by_cases h : a < x
  · simp only [h, if_true]
    simp only [List.getElem?_cons_succ, List.take_succ_cons, List.drop_succ_cons]
    split <;> simp
  · simp only [h, if_false]
    by_cases e : a = x
    · subst e; simp
    · simp [e]

theorem rising_cons {a : Int} {l : List Int} : rising (a :: l) = true ↔ (∀ b ∈ l, a < b) ∧ rising l = true := by
  induction l generalizing a with
  | nil => simp [rising]
  | cons b l ih =>
    simp only [rising, Bool.and_eq_true, decide_eq_true_eq]
    constructor
    · rintro ⟨h1, h2⟩
      refine ⟨fun c hc => ?_, h2⟩
      rcases List.mem_cons.1 hc with rfl | hc
      · exact h1
      · have := (ih.1 h2).1 c hc
        omega
    · rintro ⟨h1, h2⟩
      exact ⟨h1 b (by simp), h2⟩

theorem mem_ins {l : List Int} {x z : Int} : z ∈ ins l x ↔ z = x ∨ z ∈ l := by
  induction l with
  | nil => simp [ins_nil]
  | cons a l ih =>
    rw [ins_cons]
    split
    · simp only [List.mem_cons, ih]
      constructor
      · rintro (h | h | h) <;> simp [h]
      · rintro (h | h | h) <;> simp [h]
    · split
      · rename_i h
        subst h
        simp
      · simp

theorem rising_ins {l : List Int} {x : Int} (h : rising l = true) : rising (ins l x) = true := by
  induction l with
  | nil => simp [ins_nil, rising]
  | cons a l ih =>
    obtain ⟨h1, h2⟩ := rising_cons.1 h
    rw [ins_cons]
    split
    · rename_i hlt
      refine rising_cons.2 ⟨fun b hb => ?_, ih h2⟩
      rcases mem_ins.1 hb with rfl | hb
      · exact hlt
      · exact h1 b hb
    · split
      · exact h
      · refine rising_cons.2 ⟨fun b hb => ?_, h⟩
        rcases List.mem_cons.1 hb with rfl | hb
        · omega
        · have := h1 b hb
          omega

theorem rising_ext : ∀ {l m : List Int}, rising l = true → rising m = true → (∀ z, z ∈ l ↔ z ∈ m) → l = m
  | [], [], _, _, _ => rfl
  | [], b :: m, _, _, h => by have := (h b).2 (by simp); simp at this
  | a :: l, [], _, _, h => by have := (h a).1 (by simp); simp at this
  | a :: l, b :: m, hl, hm, h => by
    obtain ⟨l1, l2⟩ := rising_cons.1 hl
    obtain ⟨m1, m2⟩ := rising_cons.1 hm
    have hab : a = b := by
      rcases List.mem_cons.1 ((h a).1 (by simp)) with e | e
      · exact e
      · rcases List.mem_cons.1 ((h b).2 (by simp)) with e' | e'
        · exact e'.symm
        · have := m1 a e
          have := l1 b e'
          omega
    subst hab
    congr 1
    refine rising_ext l2 m2 fun z => ?_
    constructor
    · intro hz
      rcases List.mem_cons.1 ((h z).1 (by simp [hz])) with e | e
      · subst e; have := l1 z hz; omega
      · exact e
    · intro hz
      rcases List.mem_cons.1 ((h z).2 (by simp [hz])) with e | e
      · subst e; have := m1 z hz; omega
      · exact e

theorem ins_twice {l : List Int} {x : Int} (h : rising l = true) : ins (ins l x) x = ins l x :=
  rising_ext (rising_ins (rising_ins h)) (rising_ins h) fun z => by simp only [mem_ins]; constructor <;> (rintro (h | h)) <;> simp_all
theorem ins_comm {l : List Int} {x y : Int} (h : rising l = true) : ins (ins l x) y = ins (ins l y) x :=
  rising_ext (rising_ins (rising_ins h)) (rising_ins (rising_ins h)) fun z => by simp only [mem_ins]; constructor <;> (rintro (h | h | h)) <;> simp [h]

/-! ### acts -/
theorem kidx_in {k : Int} (h1 : 4 ≤ k) (h2 : k ≤ 7) : ¬ kidx k < 0 := by
  unfold kidx
  by_cases a : k = 4
  · simp [a]
  · by_cases b : k = 5
    · simp [b]
    · by_cases c : k = 6
      · simp [c]
      · have d : k = 7 := by omega
        simp [d]
theorem act_len (x : LineM) (o : OpM) : (actM x o).1.ap.length ≤ x.ap.length + 1 ∧ (actM x o).1.re.length ≤ x.re.length + 1 := by
  have := ins_len_le x.ap o.who
  have := ins_len_le x.re o.who
  unfold actM zeroLine
  repeat' split
  all_goals simp
  all_goals omega
theorem act_rises {x : LineM} {o : OpM} (h1 : rising x.ap = true) (h2 : rising x.re = true) : rising (actM x o).1.ap = true ∧ rising (actM x o).1.re = true := by
  unfold actM zeroLine
  repeat' split
  all_goals simp [h1, h2, rising, rising_ins h1, rising_ins h2]
theorem act_err {x : LineM} {o : OpM} (h1 : 4 ≤ o.kind) (h2 : o.kind ≤ 7) : (actM x o).2 = 0 ∧ x.st = 0 ∨ actM x o = (x, 278) := by
  unfold actM
  rw [if_neg (kidx_in h1 h2)]
  by_cases hs : x.st = 0
  · simp only [hs, ne_eq, not_true, if_false]
    repeat' split
    all_goals simp
  · simp [hs]
theorem act_again {x : LineM} {o : OpM} (h1 : 6 ≤ o.kind) (h2 : o.kind ≤ 7) (hr1 : rising x.ap = true) (hr2 : rising x.re = true) (h : (actM x o).2 = 0) : actM (actM x o).1 o = ((actM x o).1, 0) ∧ (actM x o).1.vr = x.vr ∧ (actM x o).1.vn = x.vn := by
  have hk := kidx_in (k := o.kind) (by omega) h2
  have h4 : ¬ o.kind = 4 := by omega
  have h5 : ¬ o.kind = 5 := by omega
  by_cases hs : x.st = 0
  · cases hv : (x.vr == o.vr && x.vn == o.vn) with
    | false => simp [actM, hk, hs, h4, h5, hv] at h
    | true =>
      by_cases h6 : o.kind = 6
      · simp [actM, h6, hs, hv, ins_twice hr1, kidx]
      · simp [actM, hk, hs, h4, h5, hv, h6, ins_twice hr2]
  · simp [actM, hk, hs] at h

end Go.Proofs.Ytfdgflhbooaomaa
