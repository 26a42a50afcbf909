/- Line, plain: what a claim does; who may; lists of numbers -/
import Derived.Test.YtfdgflhbooaomaaSx7
import Derived.Test.YtfdgflhbooaomaaPlain
namespace Go.Proofs.Ytfdgflhbooaomaa
open Go.RowKit

def claimM (x : LineM) (vr vn who : Int) : LineM × Int := match mayM x vr vn who with | true => ({ x with st := 2 }, 0) | false => (x, 278)

def anyEq (l : List Int) (k : Nat) (p : Int) : Bool := (l.take k).any fun y => y == p
def anyNe (l : List Int) (k : Nat) (p : Int) : Bool := (l.take k).any fun y => y != p
theorem anyNe_succ {l : List Int} {k : Nat} {p : Int} (h : k < l.length) : anyNe l (k + 1) p = (anyNe l k p || (l.getD k 0 != p)) := by
  unfold anyNe
  rw [List.take_succ_eq_append_getElem h, List.any_append]
  simp [List.getD_eq_getElem?_getD, h]
theorem other_yes {l : List Int} {k : Nat} {p : Int} (h : k < l.length) (hp : (l.getD k 0 != p) = true) : hasOther l p = true := by
  unfold hasOther
  rw [List.any_eq_true]
  exact ⟨l.getD k 0, by simp [List.getD_eq_getElem?_getD, h], hp⟩
theorem anyEq_succ {l : List Int} {k : Nat} {p : Int} (h : k < l.length) : anyEq l (k + 1) p = (anyEq l k p || (l.getD k 0 == p)) := by
  unfold anyEq
  rw [List.take_succ_eq_append_getElem h, List.any_append]
  simp [List.getD_eq_getElem?_getD, h]
theorem u32_elem {w : World} {U : Nat → Prop} {A : Option Addr} {c : Nat} {l : List Int} (h : U32s.at_ w U [.slice A l.length c] l) {k : Nat} (hk : k < l.length) : ∃ ad, A = some ad ∧ Rng w U (ad.add (k * 1)) [.int .u32 (l.getD k 0)] := by
  obtain ⟨A', c', e, _, hr⟩ := ints_open h
  injection e with e1 _ e2
  subst e1 e2
  obtain ⟨ad, rfl, hb, hc⟩ := hr.2 (by omega)
  refine ⟨ad, rfl, by rw [block_of_add]; exact hb, fun j u hj => ?_⟩
  match j with
  | 0 =>
    simp only [List.getElem?_cons_zero, Option.some.injEq] at hj
    subst hj
    rw [add_of_add, Nat.mul_one, Nat.add_zero]
    exact hc k _ (by simp [List.getD_eq_getElem?_getD, hk])
  | j + 1 => simp at hj
theorem cl_p1 {x : LineM} {vr vn p q : Int} (h1 : anyEq x.ap x.ap.length p = false) (h2 : anyEq x.ap x.ap.length q = false) : mayM x vr vn p = mayM x vr vn q := by
  unfold mayM
  congr 1
  unfold anyEq at h1 h2
  rw [List.take_length] at h1 h2
  unfold hasOther
  rw [List.any_eq_false] at h1 h2
  rw [Bool.eq_iff_iff, List.any_eq_true, List.any_eq_true]
  constructor
  · rintro ⟨y, hy, _⟩
    exact ⟨y, hy, by have := h2 y hy; simpa using this⟩
  · rintro ⟨y, hy, _⟩
    exact ⟨y, hy, by have := h1 y hy; simpa using this⟩
theorem cl_p2 {x : LineM} {vr vn p : Int} (h : x.ap.length = 1) (h1 : anyEq x.ap x.ap.length p = true) : mayM x vr vn p = false := by
  unfold anyEq at h1
  rw [List.take_length] at h1
  unfold mayM hasOther
  match hl : x.ap, h with
  | [y], _ =>
    rw [hl] at h1
    simp at h1
    simp [h1]
theorem cl_p3 {x : LineM} {vr vn p : Int} (h : mayM x vr vn p = true) : x.re.length = 0 := by
  unfold mayM at h
  simp only [Bool.and_eq_true, List.isEmpty_iff] at h
  simp [h.1.2]
theorem claim_len (x : LineM) (vr vn who : Int) : (claimM x vr vn who).1.ap = x.ap ∧ (claimM x vr vn who).1.re = x.re ∧ (claimM x vr vn who).1.qty = x.qty ∧ (claimM x vr vn who).1.price = x.price ∧ ((claimM x vr vn who).2 = 0 → (claimM x vr vn who).1.st = 2) := by
  unfold claimM
  cases mayM x vr vn who <;> simp

/-- an operation's cells -/
def opC (o : OpM) (s : Value) : Array Value := #[.int .u8 o.r, .int .u32 o.n, .int .u32 o.d0, .int .u32 o.d1, .int .u32 o.d2, .int .u32 o.d3, .int .u32 o.d4, .int .u32 o.d5, .int .u32 o.d6, .int .u32 o.d7, .int .u64 o.time, .int .u32 o.who, .int .u8 o.cr, .int .u32 o.cn, .int .u8 o.kind, .int .u8 o.er, .int .u32 o.en, .int .u32 o.tt, .int .u8 o.roles, .int .u8 o.depth, .int .u64 o.cap, .int .u8 o.ar, .int .u32 o.an, .int .u8 o.vr, .int .u32 o.vn, .int .u32 o.item, .int .u32 o.qty, .int .u32 o.price, s]
theorem opAt_C (o : OpM) (s : Value) (hs : s.oneCell' = true) : OpAt (opC o s) o := by
  refine ⟨rfl, rfl, rfl, rfl, rfl, rfl, rfl, rfl, rfl, rfl, fun u hu => ?_⟩
  simp only [opC, List.mem_cons, List.not_mem_nil, or_false] at hu
  rcases hu with rfl | rfl | rfl | rfl | rfl | rfl | rfl | rfl | rfl | rfl | rfl | rfl | rfl | rfl | rfl | rfl | rfl | rfl | rfl | rfl | rfl | rfl | rfl | rfl | rfl | rfl | rfl | rfl | rfl <;> first | rfl | exact hs
theorem sameM_eq {x y : LineM} (h : x = y) : sameM x y = true := by rw [h]; exact sameM_refl y
theorem act_ar {x : LineM} {o : OpM} (h1 : 6 ≤ o.kind) (h2 : o.kind ≤ 7) : (actM x o).1 = if x.st = 0 ∧ x.vr = o.vr ∧ x.vn = o.vn then (if o.kind = 6 then { x with ap := ins x.ap o.who } else { x with re := ins x.re o.who }) else x := by
  have hk := kidx_in (k := o.kind) (by omega) h2
  have h4 : ¬ o.kind = 4 := by omega
  have h5 : ¬ o.kind = 5 := by omega
  by_cases hs : x.st = 0
  · by_cases hv : x.vr = o.vr
    · by_cases hn : x.vn = o.vn
      · by_cases h6 : o.kind = 6
        · have hk6 : ¬ kidx 6 < 0 := by rw [h6] at hk; exact hk
          simp [actM, hk6, hs, hv, hn, h6]
        · simp [actM, hk, hs, hv, hn, h6, h4, h5]
      · simp [actM, hk, hs, hv, hn, h4, h5]
    · simp [actM, hk, hs, hv, h4, h5]
  · simp [actM, hk, hs]
theorem act_swap {x : LineM} {a b : OpM} (ha1 : 6 ≤ a.kind) (ha2 : a.kind ≤ 7) (hb1 : 6 ≤ b.kind) (hb2 : b.kind ≤ 7) (h1 : rising x.ap = true) (h2 : rising x.re = true) : (actM (actM x b).1 a).1 = (actM (actM x a).1 b).1 := by
  rw [act_ar ha1 ha2, act_ar hb1 hb2, act_ar hb1 hb2, act_ar ha1 ha2]
  by_cases hs : x.st = 0
  · by_cases pa : x.vr = a.vr ∧ x.vn = a.vn
    · by_cases pb : x.vr = b.vr ∧ x.vn = b.vn
      · by_cases ka : a.kind = 6
        · by_cases kb : b.kind = 6
          · simp [hs, ← pa.1, ← pa.2, ← pb.1, ← pb.2, ka, kb, ins_comm h1]
          · simp [hs, ← pa.1, ← pa.2, ← pb.1, ← pb.2, ka, kb]
        · by_cases kb : b.kind = 6
          · simp [hs, ← pa.1, ← pa.2, ← pb.1, ← pb.2, ka, kb]
          · simp [hs, ← pa.1, ← pa.2, ← pb.1, ← pb.2, ka, kb, ins_comm h2]
      · by_cases ka : a.kind = 6 <;> simp [hs, ← pa.1, ← pa.2, pb, ka]
    · by_cases pb : x.vr = b.vr ∧ x.vn = b.vn
      · by_cases kb : b.kind = 6 <;> simp [hs, ← pb.1, ← pb.2, pa, kb]
      · simp [hs, pa, pb]
  · simp [hs]
def setO : OpM := ⟨5, 9, 0, 0, 0, 0, 0, 0, 0, 0, 0, 0, 0, 0, 4, 0, 0, 0, 0, 0, 0, 0, 0, 0, 0, 0, 3, 0, []⟩
theorem actM_set {x : LineM} : actM x setO = if x.st = 0 then ({ x with qty := 3, vr := 5, vn := 9, ap := [], re := [] }, 0) else (x, 278) := by
  by_cases hs : x.st = 0 <;> simp [actM, setO, kidx, hs]
theorem actM_set_ar {x : LineM} {o : OpM} (h1 : 6 ≤ o.kind) (h2 : o.kind ≤ 7) : actM (actM x o).1 setO = actM x setO := by
  rw [act_ar h1 h2, actM_set, actM_set]
  by_cases hs : x.st = 0
  · by_cases pa : x.vr = o.vr ∧ x.vn = o.vn
    · by_cases ka : o.kind = 6 <;> simp [hs, pa, ka]
    · simp [hs, pa]
  · simp [hs]
theorem may_set {x : LineM} {vr vn p : Int} (h : (actM x setO).2 = 0) : mayM (actM x setO).1 vr vn p = false := by
  rw [actM_set] at h ⊢
  by_cases hs : x.st = 0
  · simp [hs, mayM, hasOther]
  · simp [hs] at h
theorem act_small (x : LineM) (o : OpM) : IntKind.i64.wrap (actM x o).2 = (actM x o).2 := by
  have : (actM x o).2 = 0 ∨ (actM x o).2 = 2 ∨ (actM x o).2 = 278 := by
    unfold actM
    repeat' split
    all_goals simp
  rcases this with h | h | h <;> rw [h] <;> decide
theorem add_small (o : OpM) : IntKind.i64.wrap (addM o).2 = (addM o).2 := by
  unfold addM
  split
  · exact (by decide : IntKind.i64.wrap 0 = 0)
  · exact (by decide : IntKind.i64.wrap 2 = 2)
theorem claim_small (x : LineM) (vr vn p : Int) : IntKind.i64.wrap (claimM x vr vn p).2 = (claimM x vr vn p).2 := by
  unfold claimM
  cases mayM x vr vn p
  · exact (by decide : IntKind.i64.wrap 278 = 278)
  · exact (by decide : IntKind.i64.wrap 0 = 0)
theorem bne_self' (x : Int) : (x != x) = false := by simp
theorem beq_self' (x : Int) : (x == x) = true := by simp
theorem same_plain (a b : LineM) : ((a.r == b.r && (a.n == b.n && true)) && ((a.vr == b.vr && (a.vn == b.vn && true)) && (a.item == b.item && (a.qty == b.qty && (a.price == b.price && (a.st == b.st && true)))))) = (sameM { a with ap := [], re := [] } { b with ap := [], re := [] }) := by
  rw [Bool.eq_iff_iff]
  simp [sameM]
  constructor <;> (intro h; simp_all)

theorem Keep.of_drewN {w w' : World} (h : ∃ n, w' = w.drewN n) : Keep [] w w' := by
  obtain ⟨n, rfl⟩ := h
  exact ⟨rfl, rfl, rfl, Nat.le_refl _, fun _ _ _ => rfl⟩
theorem u32_reads {w : World} {D : Nat → Prop} {A : Option Addr} {c : Nat} {l : List Int} (h : U32s.at_ w D [.slice A l.length c] l) : l.length ≤ c ∧ Reads w D 1 A l.length (l.map (Value.int .u32)) := by
  obtain ⟨A', c', e, h1, hr⟩ := ints_open h
  injection e with e1 _ e2
  subst e1 e2
  exact ⟨h1, hr⟩
theorem withR_any (D : Nat → Prop) (A : Option Addr) (c : Nat) (l : List Int) (x : Int) (w : World) (h : U32s.at_ w D [.slice A l.length c] l) (hn : l.length ≤ 1000000) :
    Calls Try.prog 29 #[.slice A l.length c, .int .u32 x] w fun e w' => ∃ A' c', e = .returned (.slice A' (ins l x).length c') ∧ U32s.at_ w' (dom D w.heap.size [] w') [.slice A' (ins l x).length c'] (ins l x) ∧ Keep [] w w' := by
  obtain ⟨hc, hr⟩ := u32_reads h
  refine (with_any D A c l x w hr hc hn).mono ?_
  rintro e w' ⟨v, rfl, ho, hb⟩
  have hs : U32s.at_ w' (dom D w.heap.size [] w') [v] (ins l x) := Rp.slice_of_own (int_rows_mk _) (by rw [flatten_ints]; exact ho) (fun b h1 h2 => ⟨h2, .inr h1, by simp⟩)
  obtain ⟨A', c', e, _, _⟩ := ints_open hs
  subst e
  exact ⟨A', c', rfl, hs, Keep.of_below hb⟩
theorem equalR_any (D E : Nat → Prop) (A A' : Option Addr) (c c' : Nat) (l m : List Int) (w : World) (h : U32s.at_ w D [.slice A l.length c] l) (h' : U32s.at_ w E [.slice A' m.length c'] m) (hn : l.length ≤ 1000000) (hm : m.length ≤ 1000000) :
    Calls Try.prog 31 #[.slice A l.length c, .slice A' m.length c'] w fun e w' => e = .returned (.bool (decide (l = m))) ∧ Keep [] w w' :=
  (equal_any D E A A' c c' l m w (u32_reads h).2 (u32_reads h').2 hn hm).mono fun _ _ h => ⟨h.1, Keep.of_drewN h.2⟩
theorem may_parts {x : LineM} {vr vn p : Int} (h1 : x.st = 0) (h2 : (x.vr == vr && (x.vn == vn && true)) = true) (h3 : x.re.length = 0) : mayM x vr vn p = hasOther x.ap p := by
  have h2' : x.vr = vr ∧ x.vn = vn := by simpa using h2
  simp [mayM, h1, h2'.1, h2'.2, List.eq_nil_of_length_eq_zero h3]
theorem other_no {l : List Int} {a : Int} {k : Nat} (hk : l.length ≤ k) (h : anyNe l k a = false) : hasOther l a = false := by
  unfold anyNe at h
  rw [List.take_of_length_le hk] at h
  exact h

theorem act_none {x : LineM} {o : OpM} (n4 : ¬ o.kind = 4) (n5 : ¬ o.kind = 5) (n6 : ¬ o.kind = 6) (n7 : ¬ o.kind = 7) : actM x o = (⟨0, 0, 0, 0, 0, 0, 0, [], [], 0⟩, 2) := by
  unfold actM
  rw [if_pos (by unfold kidx; rw [if_neg n4, if_neg n5, if_neg n6, if_neg n7]; omega)]
  rfl
theorem act_stale1 {x : LineM} {o : OpM} (h1 : 4 ≤ o.kind) (h2 : o.kind ≤ 7) (hs : x.st ≠ 0) : actM x o = (x, 278) := by
  unfold actM
  rw [if_neg (kidx_in h1 h2), if_pos hs]
theorem act_s4 {x : LineM} {o : OpM} (h : o.kind = 4) (hs : x.st = 0) : actM x o = ({ x with qty := o.qty, vr := o.r, vn := o.n, ap := [], re := [] }, 0) := by
  unfold actM
  rw [if_neg (kidx_in (by omega) (by omega)), if_neg (by simp [hs]), if_pos h]
theorem act_s5 {x : LineM} {o : OpM} (h : o.kind = 5) (hs : x.st = 0) : actM x o = ({ x with st := 1 }, 0) := by
  unfold actM
  rw [if_neg (kidx_in (by omega) (by omega)), if_neg (by simp [hs]), if_neg (by omega), if_pos h]
theorem act_stale2 {x : LineM} {o : OpM} (h1 : 6 ≤ o.kind) (h2 : o.kind ≤ 7) (hs : x.st = 0) (hv : (o.vr == x.vr && (o.vn == x.vn && true)) = false) : actM x o = (x, 278) := by
  unfold actM
  rw [if_neg (kidx_in (by omega) h2), if_neg (by simp [hs]), if_neg (by omega), if_neg (by omega), if_pos]
  simp at hv ⊢
  intro h h'
  exact hv h.symm h'.symm
theorem act_s6 {x : LineM} {o : OpM} (h : o.kind = 6) (hs : x.st = 0) (hv : (o.vr == x.vr && (o.vn == x.vn && true)) = true) : actM x o = ({ x with ap := ins x.ap o.who }, 0) := by
  simp at hv
  unfold actM
  rw [if_neg (kidx_in (by omega) (by omega)), if_neg (by simp [hs]), if_neg (by omega), if_neg (by omega), if_neg (by simp [hv.1, hv.2]), if_pos h]
theorem act_s7 {x : LineM} {o : OpM} (h : o.kind = 7) (hs : x.st = 0) (hv : (o.vr == x.vr && (o.vn == x.vn && true)) = true) : actM x o = ({ x with re := ins x.re o.who }, 0) := by
  simp at hv
  unfold actM
  rw [if_neg (kidx_in (by omega) (by omega)), if_neg (by simp [hs]), if_neg (by omega), if_neg (by omega), if_neg (by simp [hv.1, hv.2]), if_neg (by omega)]

theorem same_split (x y : LineM) : sameM x y = (((x.r == y.r && (x.n == y.n && true)) && ((x.vr == y.vr && (x.vn == y.vn && true)) && (x.item == y.item && (x.qty == y.qty && (x.price == y.price && (x.st == y.st && true)))))) && (decide (x.ap = y.ap) && decide (x.re = y.re))) := by
  rw [Bool.eq_iff_iff]
  simp [sameM]
  constructor <;> (intro h; simp_all)
end Go.Proofs.Ytfdgflhbooaomaa
