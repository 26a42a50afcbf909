/- walks by the symbolic machine: the reference, line.Same -/
import Derived.Test.YtfdgflhbooaomaaLineP
import Derived.Test.YtfdgflhbooaomaaHead
namespace Go.Proofs.Ytfdgflhbooaomaa
open Go.RowKit

noncomputable def b30 : Code := match Try.f30.body with | some c => c | none => .skip
set_option maxRecDepth 100000 in
set_option maxHeartbeats 1000000 in
theorem plainOf_any (D : Nat → Prop) (i0 i1 i2 i3 i4 i5 i6 i9 : Int) (S7 S8 : Option Addr) (n7 n8 m7 m8 : Nat) (w : World) :
    Calls Try.prog 30 #[.agg #[.int .u8 i0, .int .u32 i1, .int .u32 i2, .int .u32 i3, .int .u32 i4, .int .u8 i5, .int .u32 i6, .slice S7 n7 m7, .slice S8 n8 m8, .int .u8 i9]] w fun e w' => e = .returned (.agg #[.int .u8 i0, .int .u32 i1, .int .u8 i5, .int .u32 i6, .int .u32 i2, .int .u32 i3, .int .u32 i4, .int .u8 i9]) ∧ Keep [] w w' := by
  refine enter_ (c := b30) 16 Try.func30 (by kernel_rfl) Try.ntmps30 (Nat.le_of_ble_eq_true (by kernel_rfl)) ?_
  intro a hT
  have hI := Inv.init (D := D) (w := w) _ (AllF.nil)
  refine go_ 22 2 [0, 0, 0, 0, 0, 0, 1] [2] [1] (by kernel_rfl) hI hT ?_
  intro g hg
  obtain ⟨g1, g2, rfl⟩ := len2 hg
  clear hg
  refine ⟨[(2, .pointer (some ⟨g2, 0, none⟩))], [⟨g2, 67, [.int .u8 i0, .int .u32 i1, .int .u8 i5, .int .u32 i6, .int .u32 i2, .int .u32 i3, .int .u32 i4, .int .u8 i9]⟩], [⟨0, [1, 1], 0⟩], [.pointer (some ⟨g1, 0, none⟩), .pointer (some ⟨g1, 5, none⟩), .pointer (some ⟨g1, 2, none⟩), .pointer (some ⟨g1, 3, none⟩), .pointer (some ⟨g1, 4, none⟩), .pointer (some ⟨g1, 9, none⟩), .pointer (some ⟨g2, 0, none⟩)], [], by kernel_rfl, trivial, ?_⟩
  clear hI hT
  intro a w1 hI hT
  refine ret_ [0] (rs := [.cell 2 67]) (vs := [.agg #[.int .u8 i0, .int .u32 i1, .int .u8 i5, .int .u32 i6, .int .u32 i2, .int .u32 i3, .int .u32 i4, .int .u8 i9]]) (l := [.pointer (some ⟨g2, 0, none⟩)]) hI hT (by kernel_rfl) (by kernel_rfl) (by kernel_rfl) (by kernel_rfl) ?_
  exact ⟨rfl, hI.keep⟩

noncomputable def b17 : Code := match Try.f17.body with | some c => c | none => .skip
set_option maxRecDepth 100000 in
set_option maxHeartbeats 1000000 in
theorem sameD_any (D : Nat → Prop) (cs ds : List Value) (x y : LineM) (w : World) (hx : LineR.at_ w D cs x) (hy : LineR.at_ w D ds y) (ha : x.ap.length ≤ 1000) (hb : x.re.length ≤ 1000) (hc : y.ap.length ≤ 1000) (hd : y.re.length ≤ 1000) :
    Calls Try.prog 17 #[.agg cs.toArray, .agg ds.toArray] w fun e w' => e = .returned (.bool (sameM x y)) ∧ Below w.heap.size w w' := by
  obtain ⟨A, c, B, d, rfl, h1, h2⟩ := hx
  obtain ⟨A1, c1, B1, d1, rfl, h3, h4⟩ := hy
  refine enter_ (c := b17) 24 Try.func17 (by kernel_rfl) Try.ntmps17 (Nat.le_of_ble_eq_true (by kernel_rfl)) ?_
  intro a hT
  have hI := Inv.init (D := D) (w := w) _ (AllF.cons (f := ⟨_, U32s, [.slice A x.ap.length c], x.ap⟩) h1 (AllF.cons (f := ⟨_, U32s, [.slice B x.re.length d], x.re⟩) h2 (AllF.cons (f := ⟨_, U32s, [.slice A1 y.ap.length c1], y.ap⟩) h3 (AllF.cons (f := ⟨_, U32s, [.slice B1 y.re.length d1], y.re⟩) h4 (AllF.nil)))))
  refine go_ 7 2 [] [2, 3, 4] [0, 1] (by kernel_rfl) hI hT ?_
  intro g hg
  obtain ⟨g1, g2, rfl⟩ := len2 hg
  clear hg
  refine ⟨[(2, .pointer (some ⟨g1, 0, none⟩)), (3, .pointer (some ⟨g2, 0, none⟩)), (4, .bool false)], [⟨g1, 27, [.int .u8 x.r, .int .u32 x.n, .int .u32 x.item, .int .u32 x.qty, .int .u32 x.price, .int .u8 x.vr, .int .u32 x.vn, .slice A x.ap.length c, .slice B x.re.length d, .int .u8 x.st]⟩, ⟨g2, 27, [.int .u8 y.r, .int .u32 y.n, .int .u32 y.item, .int .u32 y.qty, .int .u32 y.price, .int .u8 y.vr, .int .u32 y.vn, .slice A1 y.ap.length c1, .slice B1 y.re.length d1, .int .u8 y.st]⟩], [⟨0, [1, 0], 0⟩, ⟨0, [1, 1], 0⟩], [], [], by kernel_rfl, trivial, ?_⟩
  clear hI hT
  intro a w1 hI hT
  refine drawG_ [(0, 1), (2, 1), (1, 0), (3, 0), (4, 2), (5, 2), (6, 2), (8, 2), (7, 1), (9, 1), (10, 0), (11, 2), (12, 2), (13, 2), (15, 2), (14, 1), (16, 1), (17, 0), (18, 2), (19, 2)] [] (by kernel_rfl) (by kernel_rfl) (by kernel_rfl) hI ?_
  clear hI
  intro w2 hI hD
  refine goD_ 2 0 [0, 1] [2, 3, 4, 5, 7] panicOk_body hI hD hT ?_
  intro g hg
  obtain rfl := len0 hg
  clear hg
  refine ⟨[(2, .pointer (some ⟨g1, 0, none⟩)), (3, .pointer (some ⟨g2, 0, none⟩)), (4, .bool false), (5, .agg #[.int .u8 x.r, .int .u32 x.n, .int .u32 x.item, .int .u32 x.qty, .int .u32 x.price, .int .u8 x.vr, .int .u32 x.vn, .slice A x.ap.length c, .slice B x.re.length d, .int .u8 x.st]), (7, .agg #[.int .u8 y.r, .int .u32 y.n, .int .u32 y.item, .int .u32 y.qty, .int .u32 y.price, .int .u8 y.vr, .int .u32 y.vn, .slice A1 y.ap.length c1, .slice B1 y.re.length d1, .int .u8 y.st])], [⟨g1, 27, [.int .u8 x.r, .int .u32 x.n, .int .u32 x.item, .int .u32 x.qty, .int .u32 x.price, .int .u8 x.vr, .int .u32 x.vn, .slice A x.ap.length c, .slice B x.re.length d, .int .u8 x.st]⟩, ⟨g2, 27, [.int .u8 y.r, .int .u32 y.n, .int .u32 y.item, .int .u32 y.qty, .int .u32 y.price, .int .u8 y.vr, .int .u32 y.vn, .slice A1 y.ap.length c1, .slice B1 y.re.length d1, .int .u8 y.st]⟩], [(1, 0), (3, 0), (4, 2), (5, 2), (6, 2), (8, 2), (7, 1), (9, 1), (10, 0), (11, 2), (12, 2), (13, 2), (15, 2), (14, 1), (16, 1), (17, 0), (18, 2), (19, 2)], [.pointer (some ⟨g1, 0, none⟩), .pointer (some ⟨g2, 0, none⟩)], [], by kernel_rfl, trivial, ?_⟩
  clear hI hT hD
  intro a w3 hI hD hT
  refine callDG_ (some 6) 30 #[.agg #[.int .u8 x.r, .int .u32 x.n, .int .u32 x.item, .int .u32 x.qty, .int .u32 x.price, .int .u8 x.vr, .int .u32 x.vn, .slice A x.ap.length c, .slice B x.re.length d, .int .u8 x.st]] hT hD (by kernel_rfl) (plainOf_any (fun _ => True) x.r x.n x.item x.qty x.price x.vr x.vn x.st A B x.ap.length x.re.length c d _) ?_
  rintro e w4 ⟨rfl, hk⟩
  refine ⟨_, _, rfl, hD.after hk, ?_⟩
  replace hD := hD.after hk
  replace hI := hI.after hk
  clear hT
  intro a hT
  refine callDG_ (some 8) 30 #[.agg #[.int .u8 y.r, .int .u32 y.n, .int .u32 y.item, .int .u32 y.qty, .int .u32 y.price, .int .u8 y.vr, .int .u32 y.vn, .slice A1 y.ap.length c1, .slice B1 y.re.length d1, .int .u8 y.st]] hT hD (by kernel_rfl) (plainOf_any (fun _ => True) y.r y.n y.item y.qty y.price y.vr y.vn y.st A1 B1 y.ap.length y.re.length c1 d1 _) ?_
  rintro e w5 ⟨rfl, hk⟩
  refine ⟨_, _, rfl, hD.after hk, ?_⟩
  replace hD := hD.after hk
  replace hI := hI.after hk
  clear hT
  intro a hT
  refine goD_ 2 0 [] [2, 3, 4, 10] panicOk_body hI hD hT ?_
  intro g hg
  obtain rfl := len0 hg
  clear hg
  refine ⟨[(2, .pointer (some ⟨g1, 0, none⟩)), (3, .pointer (some ⟨g2, 0, none⟩)), (4, .bool false), (10, .bool (((x.r : Int) == y.r && ((x.n : Int) == y.n && true)) && (((x.vr : Int) == y.vr && ((x.vn : Int) == y.vn && true)) && ((x.item : Int) == y.item && ((x.qty : Int) == y.qty && ((x.price : Int) == y.price && ((x.st : Int) == y.st && true)))))))], [⟨g1, 27, [.int .u8 x.r, .int .u32 x.n, .int .u32 x.item, .int .u32 x.qty, .int .u32 x.price, .int .u8 x.vr, .int .u32 x.vn, .slice A x.ap.length c, .slice B x.re.length d, .int .u8 x.st]⟩, ⟨g2, 27, [.int .u8 y.r, .int .u32 y.n, .int .u32 y.item, .int .u32 y.qty, .int .u32 y.price, .int .u8 y.vr, .int .u32 y.vn, .slice A1 y.ap.length c1, .slice B1 y.re.length d1, .int .u8 y.st]⟩], [(6, 2), (8, 2), (7, 1), (9, 1), (10, 0), (11, 2), (12, 2), (13, 2), (15, 2), (14, 1), (16, 1), (17, 0), (18, 2), (19, 2)], [], [], by kernel_rfl, trivial, ?_⟩
  clear hI hT hD
  intro a w6 hI hD hT
  refine bcase (((x.r : Int) == y.r && ((x.n : Int) == y.n && true)) && (((x.vr : Int) == y.vr && ((x.vn : Int) == y.vn && true)) && ((x.item : Int) == y.item && ((x.qty : Int) == y.qty && ((x.price : Int) == y.price && ((x.st : Int) == y.st && true)))))) ?_ ?_
  · intro hb1
    replace hT := hT.rebool (b := (((x.r : Int) == y.r && ((x.n : Int) == y.n && true)) && (((x.vr : Int) == y.vr && ((x.vn : Int) == y.vn && true)) && ((x.item : Int) == y.item && ((x.qty : Int) == y.qty && ((x.price : Int) == y.price && ((x.st : Int) == y.st && true))))))) 10 true (by kernel_rfl) hb1
    refine goD_ 4 0 [0, 1] [2, 3, 4, 10, 12, 14] panicOk_body hI hD hT ?_
    intro g hg
    obtain rfl := len0 hg
    clear hg
    refine ⟨[(2, .pointer (some ⟨g1, 0, none⟩)), (3, .pointer (some ⟨g2, 0, none⟩)), (4, .bool false), (10, .bool true), (12, .slice A x.ap.length c), (14, .slice A1 y.ap.length c1)], [⟨g1, 27, [.int .u8 x.r, .int .u32 x.n, .int .u32 x.item, .int .u32 x.qty, .int .u32 x.price, .int .u8 x.vr, .int .u32 x.vn, .slice A x.ap.length c, .slice B x.re.length d, .int .u8 x.st]⟩, ⟨g2, 27, [.int .u8 y.r, .int .u32 y.n, .int .u32 y.item, .int .u32 y.qty, .int .u32 y.price, .int .u8 y.vr, .int .u32 y.vn, .slice A1 y.ap.length c1, .slice B1 y.re.length d1, .int .u8 y.st]⟩], [(10, 0), (11, 2), (12, 2), (13, 2), (15, 2), (14, 1), (16, 1), (17, 0), (18, 2), (19, 2)], [.pointer (some ⟨g1, 7, none⟩), .pointer (some ⟨g2, 7, none⟩)], [], by kernel_rfl, trivial, ?_⟩
    clear hI hT hD
    intro a w7 hI hD hT
    refine callDG_ (some 15) 31 #[.slice A x.ap.length c, .slice A1 y.ap.length c1] hT hD (by kernel_rfl) (equalR_any _ _ A A1 c c1 x.ap y.ap _ (hI.fact 0 rfl) (hI.fact 2 rfl) (by first | assumption | omega | (dsimp only; omega)) (by first | assumption | omega | (dsimp only; omega))) ?_
    rintro e w8 ⟨rfl, hk⟩
    refine ⟨_, _, rfl, hD.after hk, ?_⟩
    replace hD := hD.after hk
    replace hI := hI.after hk
    clear hT
    intro a hT
    refine goD_ 2 0 [] [2, 3, 4, 17] panicOk_body hI hD hT ?_
    intro g hg
    obtain rfl := len0 hg
    clear hg
    refine ⟨[(2, .pointer (some ⟨g1, 0, none⟩)), (3, .pointer (some ⟨g2, 0, none⟩)), (4, .bool false), (17, .bool (decide (x.ap = y.ap)))], [⟨g1, 27, [.int .u8 x.r, .int .u32 x.n, .int .u32 x.item, .int .u32 x.qty, .int .u32 x.price, .int .u8 x.vr, .int .u32 x.vn, .slice A x.ap.length c, .slice B x.re.length d, .int .u8 x.st]⟩, ⟨g2, 27, [.int .u8 y.r, .int .u32 y.n, .int .u32 y.item, .int .u32 y.qty, .int .u32 y.price, .int .u8 y.vr, .int .u32 y.vn, .slice A1 y.ap.length c1, .slice B1 y.re.length d1, .int .u8 y.st]⟩], [(13, 2), (15, 2), (14, 1), (16, 1), (17, 0), (18, 2), (19, 2)], [], [], by kernel_rfl, trivial, ?_⟩
    clear hI hT hD
    intro a w9 hI hD hT
    refine bcase (decide (x.ap = y.ap)) ?_ ?_
    · intro hb2
      replace hT := hT.rebool (b := decide (x.ap = y.ap)) 17 true (by kernel_rfl) hb2
      have hb2d := of_decide_eq_true hb2
      refine goD_ 4 0 [0, 1] [4, 17, 19, 21] panicOk_body hI hD hT ?_
      intro g hg
      obtain rfl := len0 hg
      clear hg
      refine ⟨[(4, .bool false), (17, .bool true), (19, .slice B x.re.length d), (21, .slice B1 y.re.length d1)], [⟨g1, 27, [.int .u8 x.r, .int .u32 x.n, .int .u32 x.item, .int .u32 x.qty, .int .u32 x.price, .int .u8 x.vr, .int .u32 x.vn, .slice A x.ap.length c, .slice B x.re.length d, .int .u8 x.st]⟩, ⟨g2, 27, [.int .u8 y.r, .int .u32 y.n, .int .u32 y.item, .int .u32 y.qty, .int .u32 y.price, .int .u8 y.vr, .int .u32 y.vn, .slice A1 y.ap.length c1, .slice B1 y.re.length d1, .int .u8 y.st]⟩], [(17, 0), (18, 2), (19, 2)], [.pointer (some ⟨g1, 8, none⟩), .pointer (some ⟨g2, 8, none⟩)], [], by kernel_rfl, trivial, ?_⟩
      clear hI hT hD
      intro a w10 hI hD hT
      refine callDG_ (some 22) 31 #[.slice B x.re.length d, .slice B1 y.re.length d1] hT hD (by kernel_rfl) (equalR_any _ _ B B1 d d1 x.re y.re _ (hI.fact 1 rfl) (hI.fact 3 rfl) (by first | assumption | omega | (dsimp only; omega)) (by first | assumption | omega | (dsimp only; omega))) ?_
      rintro e w11 ⟨rfl, hk⟩
      refine ⟨_, _, rfl, hD.after hk, ?_⟩
      replace hD := hD.after hk
      replace hI := hI.after hk
      clear hT
      intro a hT
      refine goD_ 2 0 [] [4] panicOk_body hI hD hT ?_
      intro g hg
      obtain rfl := len0 hg
      clear hg
      refine ⟨[(4, .bool (decide (x.re = y.re)))], [⟨g1, 27, [.int .u8 x.r, .int .u32 x.n, .int .u32 x.item, .int .u32 x.qty, .int .u32 x.price, .int .u8 x.vr, .int .u32 x.vn, .slice A x.ap.length c, .slice B x.re.length d, .int .u8 x.st]⟩, ⟨g2, 27, [.int .u8 y.r, .int .u32 y.n, .int .u32 y.item, .int .u32 y.qty, .int .u32 y.price, .int .u8 y.vr, .int .u32 y.vn, .slice A1 y.ap.length c1, .slice B1 y.re.length d1, .int .u8 y.st]⟩], [], [], [], by kernel_rfl, trivial, ?_⟩
      clear hI hT hD
      intro a w12 hI hD hT
      refine doneD_ ?_
      clear hD
      refine ret_ [] (rs := [.tmp 4]) (vs := [.bool (decide (x.re = y.re))]) (l := []) hI hT (by kernel_rfl) (by kernel_rfl) (by kernel_rfl) (by kernel_rfl) ?_
      refine ⟨?_, hI.keep.below⟩
      rw [same_split, hb1, hb2]
      rfl
    · intro hb2
      replace hT := hT.rebool (b := decide (x.ap = y.ap)) 17 false (by kernel_rfl) hb2
      have hb2d := of_decide_eq_false hb2
      refine goD_ 7 0 [] [4] panicOk_body hI hD hT ?_
      intro g hg
      obtain rfl := len0 hg
      clear hg
      refine ⟨[(4, .bool false)], [⟨g1, 27, [.int .u8 x.r, .int .u32 x.n, .int .u32 x.item, .int .u32 x.qty, .int .u32 x.price, .int .u8 x.vr, .int .u32 x.vn, .slice A x.ap.length c, .slice B x.re.length d, .int .u8 x.st]⟩, ⟨g2, 27, [.int .u8 y.r, .int .u32 y.n, .int .u32 y.item, .int .u32 y.qty, .int .u32 y.price, .int .u8 y.vr, .int .u32 y.vn, .slice A1 y.ap.length c1, .slice B1 y.re.length d1, .int .u8 y.st]⟩], [], [], [], by kernel_rfl, trivial, ?_⟩
      clear hI hT hD
      intro a w13 hI hD hT
      refine doneD_ ?_
      clear hD
      refine ret_ [] (rs := [.tmp 4]) (vs := [.bool false]) (l := []) hI hT (by kernel_rfl) (by kernel_rfl) (by kernel_rfl) (by kernel_rfl) ?_
      refine ⟨?_, hI.keep.below⟩
      rw [same_split, hb1, hb2]
      rfl
  · intro hb1
    replace hT := hT.rebool (b := (((x.r : Int) == y.r && ((x.n : Int) == y.n && true)) && (((x.vr : Int) == y.vr && ((x.vn : Int) == y.vn && true)) && ((x.item : Int) == y.item && ((x.qty : Int) == y.qty && ((x.price : Int) == y.price && ((x.st : Int) == y.st && true))))))) 10 false (by kernel_rfl) hb1
    refine goD_ 14 0 [] [4] panicOk_body hI hD hT ?_
    intro g hg
    obtain rfl := len0 hg
    clear hg
    refine ⟨[(4, .bool false)], [⟨g1, 27, [.int .u8 x.r, .int .u32 x.n, .int .u32 x.item, .int .u32 x.qty, .int .u32 x.price, .int .u8 x.vr, .int .u32 x.vn, .slice A x.ap.length c, .slice B x.re.length d, .int .u8 x.st]⟩, ⟨g2, 27, [.int .u8 y.r, .int .u32 y.n, .int .u32 y.item, .int .u32 y.qty, .int .u32 y.price, .int .u8 y.vr, .int .u32 y.vn, .slice A1 y.ap.length c1, .slice B1 y.re.length d1, .int .u8 y.st]⟩], [], [], [], by kernel_rfl, trivial, ?_⟩
    clear hI hT hD
    intro a w14 hI hD hT
    refine doneD_ ?_
    clear hD
    refine ret_ [] (rs := [.tmp 4]) (vs := [.bool false]) (l := []) hI hT (by kernel_rfl) (by kernel_rfl) (by kernel_rfl) (by kernel_rfl) ?_
    refine ⟨?_, hI.keep.below⟩
    rw [same_split, hb1]
    rfl

noncomputable def b14 : Code := match Try.f14.body with | some c => c | none => .skip
set_option maxRecDepth 100000 in
set_option maxHeartbeats 1000000 in
theorem refAct_any (D : Nat → Prop) (cs : List Value) (x : LineM) (o : OpM) (A0 : Option Addr) (n0 c0 : Nat) (w : World) (hx : LineR.at_ w D cs x) (ha : x.ap.length ≤ 1000) (hb : x.re.length ≤ 1000) :
    Calls Try.prog 14 #[.agg cs.toArray, .agg (opC o (.slice A0 n0 c0))] w fun e w' => ∃ cs', e = .returned (.tuple #[.agg cs'.toArray, .int .i64 (actM x o).2]) ∧ LineR.at_ w' (dom D w.heap.size [] w') cs' (actM x o).1 ∧ Below w.heap.size w w' := by
  obtain ⟨A, c, B, d, rfl, h1, h2⟩ := hx
  refine enter_ (c := b14) 63 Try.func14 (by kernel_rfl) Try.ntmps14 (Nat.le_of_ble_eq_true (by kernel_rfl)) ?_
  intro a hT
  have hI := Inv.init (D := D) (w := w) _ (AllF.cons (f := ⟨_, U32s, [.slice A x.ap.length c], x.ap⟩) h1 (AllF.cons (f := ⟨_, U32s, [.slice B x.re.length d], x.re⟩) h2 (AllF.nil)))
  refine go_ 14 3 [1] [2, 3, 4, 5, 9] [0, 1, 2] (by kernel_rfl) hI hT ?_
  intro g hg
  obtain ⟨g1, g2, g3, rfl⟩ := len3 hg
  clear hg
  refine ⟨[(2, .pointer (some ⟨g1, 0, none⟩)), (3, .pointer (some ⟨g2, 0, none⟩)), (4, .pointer (some ⟨g3, 0, none⟩)), (5, .int .i64 0), (9, .bool (decide ((o.kind : Int) < 4)))], [⟨g1, 27, [.int .u8 x.r, .int .u32 x.n, .int .u32 x.item, .int .u32 x.qty, .int .u32 x.price, .int .u8 x.vr, .int .u32 x.vn, .slice A x.ap.length c, .slice B x.re.length d, .int .u8 x.st]⟩, ⟨g2, 33, [.int .u8 o.r, .int .u32 o.n, .int .u32 o.d0, .int .u32 o.d1, .int .u32 o.d2, .int .u32 o.d3, .int .u32 o.d4, .int .u32 o.d5, .int .u32 o.d6, .int .u32 o.d7, .int .u64 o.time, .int .u32 o.who, .int .u8 o.cr, .int .u32 o.cn, .int .u8 o.kind, .int .u8 o.er, .int .u32 o.en, .int .u32 o.tt, .int .u8 o.roles, .int .u8 o.depth, .int .u64 o.cap, .int .u8 o.ar, .int .u32 o.an, .int .u8 o.vr, .int .u32 o.vn, .int .u32 o.item, .int .u32 o.qty, .int .u32 o.price, .slice A0 n0 c0]⟩, ⟨g3, 27, [.int .u8 0, .int .u32 0, .int .u32 0, .int .u32 0, .int .u32 0, .int .u8 0, .int .u32 0, .slice none 0 0, .slice none 0 0, .int .u8 0]⟩], [⟨1, [1, 0, 0], 4⟩, ⟨0, [1, 0, 1], 0⟩, ⟨0, [1, 1], 0⟩], [.pointer (some ⟨g2, 14, none⟩)], [], by kernel_rfl, trivial, ?_⟩
  clear hI hT
  intro a w1 hI hT
  refine bcase (decide ((o.kind : Int) < 4)) ?_ ?_
  · intro hb1
    replace hT := hT.rebool (b := decide ((o.kind : Int) < 4)) 9 true (by kernel_rfl) hb1
    have hb1d := of_decide_eq_true hb1
    refine go_ 12 0 [2] [2, 3, 4, 5] [0, 1, 2] (by kernel_rfl) hI hT ?_
    rintro g hg
    obtain rfl := len0 hg
    clear hg
    refine ⟨[(2, .pointer (some ⟨g1, 0, none⟩)), (3, .pointer (some ⟨g2, 0, none⟩)), (4, .pointer (some ⟨g3, 0, none⟩)), (5, .int .i64 2)], [⟨g1, 27, [.int .u8 x.r, .int .u32 x.n, .int .u32 x.item, .int .u32 x.qty, .int .u32 x.price, .int .u8 x.vr, .int .u32 x.vn, .slice A x.ap.length c, .slice B x.re.length d, .int .u8 x.st]⟩, ⟨g2, 33, [.int .u8 o.r, .int .u32 o.n, .int .u32 o.d0, .int .u32 o.d1, .int .u32 o.d2, .int .u32 o.d3, .int .u32 o.d4, .int .u32 o.d5, .int .u32 o.d6, .int .u32 o.d7, .int .u64 o.time, .int .u32 o.who, .int .u8 o.cr, .int .u32 o.cn, .int .u8 o.kind, .int .u8 o.er, .int .u32 o.en, .int .u32 o.tt, .int .u8 o.roles, .int .u8 o.depth, .int .u64 o.cap, .int .u8 o.ar, .int .u32 o.an, .int .u8 o.vr, .int .u32 o.vn, .int .u32 o.item, .int .u32 o.qty, .int .u32 o.price, .slice A0 n0 c0]⟩, ⟨g3, 27, [.int .u8 0, .int .u32 0, .int .u32 0, .int .u32 0, .int .u32 0, .int .u8 0, .int .u32 0, .slice none 0 0, .slice none 0 0, .int .u8 0]⟩], [⟨0, [1, 0, 1, 0, 1], 0⟩, ⟨0, [1, 1], 0⟩], [.pointer (some ⟨g3, 0, none⟩)], [], by kernel_rfl, trivial, ?_⟩
    clear hI hT
    intro a w2 hI hT
    refine ret_ [2] (rs := [.cell 4 27, .tmp 5]) (vs := [.agg #[.int .u8 0, .int .u32 0, .int .u32 0, .int .u32 0, .int .u32 0, .int .u8 0, .int .u32 0, .slice none 0 0, .slice none 0 0, .int .u8 0], .int .i64 2]) (l := [.pointer (some ⟨g3, 0, none⟩)]) hI hT (by kernel_rfl) (by kernel_rfl) (by kernel_rfl) (by kernel_rfl) ?_
    have hact : actM x o = ((⟨0, 0, 0, 0, 0, 0, 0, [], [], 0⟩ : LineM), 2) := by first | (exfalso; omega) | exact act_none (by omega) (by omega) (by omega) (by omega) | exact act_stale1 (by omega) (by omega) (by assumption) | exact act_stale2 (by omega) (by omega) (by assumption) (by assumption) | exact act_s4 (by assumption) (by assumption) | exact act_s5 (by assumption) (by assumption) | exact act_s6 (by assumption) (by assumption) (by assumption) | exact act_s7 (by assumption) (by assumption) (by assumption)
    rw [hact]
    exact ⟨[.int .u8 0, .int .u32 0, .int .u32 0, .int .u32 0, .int .u32 0, .int .u8 0, .int .u32 0, .slice none 0 0, .slice none 0 0, .int .u8 0], rfl, LineR.ends (L := gs [⟨g1, 27, [.int .u8 x.r, .int .u32 x.n, .int .u32 x.item, .int .u32 x.qty, .int .u32 x.price, .int .u8 x.vr, .int .u32 x.vn, .slice A x.ap.length c, .slice B x.re.length d, .int .u8 x.st]⟩, ⟨g2, 33, [.int .u8 o.r, .int .u32 o.n, .int .u32 o.d0, .int .u32 o.d1, .int .u32 o.d2, .int .u32 o.d3, .int .u32 o.d4, .int .u32 o.d5, .int .u32 o.d6, .int .u32 o.d7, .int .u64 o.time, .int .u32 o.who, .int .u8 o.cr, .int .u32 o.cn, .int .u8 o.kind, .int .u8 o.er, .int .u32 o.en, .int .u32 o.tt, .int .u8 o.roles, .int .u8 o.depth, .int .u64 o.cap, .int .u8 o.ar, .int .u32 o.an, .int .u8 o.vr, .int .u32 o.vn, .int .u32 o.item, .int .u32 o.qty, .int .u32 o.price, .slice A0 n0 c0]⟩, ⟨g3, 27, [.int .u8 0, .int .u32 0, .int .u32 0, .int .u32 0, .int .u32 0, .int .u8 0, .int .u32 0, .slice none 0 0, .slice none 0 0, .int .u8 0]⟩]) ⟨none, 0, none, 0, rfl, Rp.slice_nil, Rp.slice_nil⟩, hI.keep.below⟩
  · intro hb1
    replace hT := hT.rebool (b := decide ((o.kind : Int) < 4)) 9 false (by kernel_rfl) hb1
    have hb1d := of_decide_eq_false hb1
    refine go_ 5 0 [1] [2, 3, 4, 5, 13] [0, 1, 2] (by kernel_rfl) hI hT ?_
    rintro g hg
    obtain rfl := len0 hg
    clear hg
    refine ⟨[(2, .pointer (some ⟨g1, 0, none⟩)), (3, .pointer (some ⟨g2, 0, none⟩)), (4, .pointer (some ⟨g3, 0, none⟩)), (5, .int .i64 0), (13, .bool (decide ((o.kind : Int) > 7)))], [⟨g1, 27, [.int .u8 x.r, .int .u32 x.n, .int .u32 x.item, .int .u32 x.qty, .int .u32 x.price, .int .u8 x.vr, .int .u32 x.vn, .slice A x.ap.length c, .slice B x.re.length d, .int .u8 x.st]⟩, ⟨g2, 33, [.int .u8 o.r, .int .u32 o.n, .int .u32 o.d0, .int .u32 o.d1, .int .u32 o.d2, .int .u32 o.d3, .int .u32 o.d4, .int .u32 o.d5, .int .u32 o.d6, .int .u32 o.d7, .int .u64 o.time, .int .u32 o.who, .int .u8 o.cr, .int .u32 o.cn, .int .u8 o.kind, .int .u8 o.er, .int .u32 o.en, .int .u32 o.tt, .int .u8 o.roles, .int .u8 o.depth, .int .u64 o.cap, .int .u8 o.ar, .int .u32 o.an, .int .u8 o.vr, .int .u32 o.vn, .int .u32 o.item, .int .u32 o.qty, .int .u32 o.price, .slice A0 n0 c0]⟩, ⟨g3, 27, [.int .u8 0, .int .u32 0, .int .u32 0, .int .u32 0, .int .u32 0, .int .u8 0, .int .u32 0, .slice none 0 0, .slice none 0 0, .int .u8 0]⟩], [⟨0, [1, 0, 1], 0⟩, ⟨0, [1, 1], 0⟩], [.pointer (some ⟨g2, 14, none⟩)], [], by kernel_rfl, trivial, ?_⟩
    clear hI hT
    intro a w3 hI hT
    refine condG_ (decide ((o.kind : Int) > 7)) hT (by kernel_rfl) ?_ ?_
    · intro hb2
      have hb2d := of_decide_eq_true hb2
      refine go_ 6 0 [2] [2, 3, 4, 5] [0, 1, 2] (by kernel_rfl) hI hT ?_
      rintro g hg
      obtain rfl := len0 hg
      clear hg
      refine ⟨[(2, .pointer (some ⟨g1, 0, none⟩)), (3, .pointer (some ⟨g2, 0, none⟩)), (4, .pointer (some ⟨g3, 0, none⟩)), (5, .int .i64 2)], [⟨g1, 27, [.int .u8 x.r, .int .u32 x.n, .int .u32 x.item, .int .u32 x.qty, .int .u32 x.price, .int .u8 x.vr, .int .u32 x.vn, .slice A x.ap.length c, .slice B x.re.length d, .int .u8 x.st]⟩, ⟨g2, 33, [.int .u8 o.r, .int .u32 o.n, .int .u32 o.d0, .int .u32 o.d1, .int .u32 o.d2, .int .u32 o.d3, .int .u32 o.d4, .int .u32 o.d5, .int .u32 o.d6, .int .u32 o.d7, .int .u64 o.time, .int .u32 o.who, .int .u8 o.cr, .int .u32 o.cn, .int .u8 o.kind, .int .u8 o.er, .int .u32 o.en, .int .u32 o.tt, .int .u8 o.roles, .int .u8 o.depth, .int .u64 o.cap, .int .u8 o.ar, .int .u32 o.an, .int .u8 o.vr, .int .u32 o.vn, .int .u32 o.item, .int .u32 o.qty, .int .u32 o.price, .slice A0 n0 c0]⟩, ⟨g3, 27, [.int .u8 0, .int .u32 0, .int .u32 0, .int .u32 0, .int .u32 0, .int .u8 0, .int .u32 0, .slice none 0 0, .slice none 0 0, .int .u8 0]⟩], [⟨0, [1, 0, 1, 0, 1], 0⟩, ⟨0, [1, 1], 0⟩], [.pointer (some ⟨g3, 0, none⟩)], [], by kernel_rfl, trivial, ?_⟩
      clear hI hT
      intro a w4 hI hT
      refine ret_ [2] (rs := [.cell 4 27, .tmp 5]) (vs := [.agg #[.int .u8 0, .int .u32 0, .int .u32 0, .int .u32 0, .int .u32 0, .int .u8 0, .int .u32 0, .slice none 0 0, .slice none 0 0, .int .u8 0], .int .i64 2]) (l := [.pointer (some ⟨g3, 0, none⟩)]) hI hT (by kernel_rfl) (by kernel_rfl) (by kernel_rfl) (by kernel_rfl) ?_
      have hact : actM x o = ((⟨0, 0, 0, 0, 0, 0, 0, [], [], 0⟩ : LineM), 2) := by first | (exfalso; omega) | exact act_none (by omega) (by omega) (by omega) (by omega) | exact act_stale1 (by omega) (by omega) (by assumption) | exact act_stale2 (by omega) (by omega) (by assumption) (by assumption) | exact act_s4 (by assumption) (by assumption) | exact act_s5 (by assumption) (by assumption) | exact act_s6 (by assumption) (by assumption) (by assumption) | exact act_s7 (by assumption) (by assumption) (by assumption)
      rw [hact]
      exact ⟨[.int .u8 0, .int .u32 0, .int .u32 0, .int .u32 0, .int .u32 0, .int .u8 0, .int .u32 0, .slice none 0 0, .slice none 0 0, .int .u8 0], rfl, LineR.ends (L := gs [⟨g1, 27, [.int .u8 x.r, .int .u32 x.n, .int .u32 x.item, .int .u32 x.qty, .int .u32 x.price, .int .u8 x.vr, .int .u32 x.vn, .slice A x.ap.length c, .slice B x.re.length d, .int .u8 x.st]⟩, ⟨g2, 33, [.int .u8 o.r, .int .u32 o.n, .int .u32 o.d0, .int .u32 o.d1, .int .u32 o.d2, .int .u32 o.d3, .int .u32 o.d4, .int .u32 o.d5, .int .u32 o.d6, .int .u32 o.d7, .int .u64 o.time, .int .u32 o.who, .int .u8 o.cr, .int .u32 o.cn, .int .u8 o.kind, .int .u8 o.er, .int .u32 o.en, .int .u32 o.tt, .int .u8 o.roles, .int .u8 o.depth, .int .u64 o.cap, .int .u8 o.ar, .int .u32 o.an, .int .u8 o.vr, .int .u32 o.vn, .int .u32 o.item, .int .u32 o.qty, .int .u32 o.price, .slice A0 n0 c0]⟩, ⟨g3, 27, [.int .u8 0, .int .u32 0, .int .u32 0, .int .u32 0, .int .u32 0, .int .u8 0, .int .u32 0, .slice none 0 0, .slice none 0 0, .int .u8 0]⟩]) ⟨none, 0, none, 0, rfl, Rp.slice_nil, Rp.slice_nil⟩, hI.keep.below⟩
    · intro hb2
      have hb2d := of_decide_eq_false hb2
      refine go_ 8 0 [0] [2, 3, 4, 5, 18] [0, 1, 2] (by kernel_rfl) hI hT ?_
      rintro g hg
      obtain rfl := len0 hg
      clear hg
      refine ⟨[(2, .pointer (some ⟨g1, 0, none⟩)), (3, .pointer (some ⟨g2, 0, none⟩)), (4, .pointer (some ⟨g3, 0, none⟩)), (5, .int .i64 0), (18, .bool ((x.st : Int) != 0))], [⟨g1, 27, [.int .u8 x.r, .int .u32 x.n, .int .u32 x.item, .int .u32 x.qty, .int .u32 x.price, .int .u8 x.vr, .int .u32 x.vn, .slice A x.ap.length c, .slice B x.re.length d, .int .u8 x.st]⟩, ⟨g2, 33, [.int .u8 o.r, .int .u32 o.n, .int .u32 o.d0, .int .u32 o.d1, .int .u32 o.d2, .int .u32 o.d3, .int .u32 o.d4, .int .u32 o.d5, .int .u32 o.d6, .int .u32 o.d7, .int .u64 o.time, .int .u32 o.who, .int .u8 o.cr, .int .u32 o.cn, .int .u8 o.kind, .int .u8 o.er, .int .u32 o.en, .int .u32 o.tt, .int .u8 o.roles, .int .u8 o.depth, .int .u64 o.cap, .int .u8 o.ar, .int .u32 o.an, .int .u8 o.vr, .int .u32 o.vn, .int .u32 o.item, .int .u32 o.qty, .int .u32 o.price, .slice A0 n0 c0]⟩, ⟨g3, 27, [.int .u8 0, .int .u32 0, .int .u32 0, .int .u32 0, .int .u32 0, .int .u8 0, .int .u32 0, .slice none 0 0, .slice none 0 0, .int .u8 0]⟩], [⟨1, [1, 1, 0, 0], 4⟩, ⟨0, [1, 1, 0, 1], 0⟩, ⟨0, [1, 1, 1], 0⟩], [.pointer (some ⟨g1, 9, none⟩)], [], by kernel_rfl, trivial, ?_⟩
      clear hI hT
      intro a w5 hI hT
      refine bcase ((x.st : Int) != 0) ?_ ?_
      · intro hb3
        replace hT := hT.rebool (b := (x.st : Int) != 0) 18 true (by kernel_rfl) hb3
        have hb3d := ne_of_bne_true hb3
        refine go_ 19 0 [0, 2] [2, 3, 4, 5] [0, 1, 2] (by kernel_rfl) hI hT ?_
        rintro g hg
        obtain rfl := len0 hg
        clear hg
        refine ⟨[(2, .pointer (some ⟨g1, 0, none⟩)), (3, .pointer (some ⟨g2, 0, none⟩)), (4, .pointer (some ⟨g3, 0, none⟩)), (5, .int .i64 278)], [⟨g1, 27, [.int .u8 x.r, .int .u32 x.n, .int .u32 x.item, .int .u32 x.qty, .int .u32 x.price, .int .u8 x.vr, .int .u32 x.vn, .slice A x.ap.length c, .slice B x.re.length d, .int .u8 x.st]⟩, ⟨g2, 33, [.int .u8 o.r, .int .u32 o.n, .int .u32 o.d0, .int .u32 o.d1, .int .u32 o.d2, .int .u32 o.d3, .int .u32 o.d4, .int .u32 o.d5, .int .u32 o.d6, .int .u32 o.d7, .int .u64 o.time, .int .u32 o.who, .int .u8 o.cr, .int .u32 o.cn, .int .u8 o.kind, .int .u8 o.er, .int .u32 o.en, .int .u32 o.tt, .int .u8 o.roles, .int .u8 o.depth, .int .u64 o.cap, .int .u8 o.ar, .int .u32 o.an, .int .u8 o.vr, .int .u32 o.vn, .int .u32 o.item, .int .u32 o.qty, .int .u32 o.price, .slice A0 n0 c0]⟩, ⟨g3, 27, [.int .u8 x.r, .int .u32 x.n, .int .u32 x.item, .int .u32 x.qty, .int .u32 x.price, .int .u8 x.vr, .int .u32 x.vn, .slice A x.ap.length c, .slice B x.re.length d, .int .u8 x.st]⟩], [⟨0, [1, 1, 0, 1, 0, 1], 0⟩, ⟨0, [1, 1, 1], 0⟩], [.pointer (some ⟨g1, 0, none⟩), .pointer (some ⟨g3, 0, none⟩)], [], by kernel_rfl, trivial, ?_⟩
        clear hI hT
        intro a w6 hI hT
        refine ret_ [2] (rs := [.cell 4 27, .tmp 5]) (vs := [.agg #[.int .u8 x.r, .int .u32 x.n, .int .u32 x.item, .int .u32 x.qty, .int .u32 x.price, .int .u8 x.vr, .int .u32 x.vn, .slice A x.ap.length c, .slice B x.re.length d, .int .u8 x.st], .int .i64 278]) (l := [.pointer (some ⟨g3, 0, none⟩)]) hI hT (by kernel_rfl) (by kernel_rfl) (by kernel_rfl) (by kernel_rfl) ?_
        have hact : actM x o = (x, 278) := by first | (exfalso; omega) | exact act_none (by omega) (by omega) (by omega) (by omega) | exact act_stale1 (by omega) (by omega) (by assumption) | exact act_stale2 (by omega) (by omega) (by assumption) (by assumption) | exact act_s4 (by assumption) (by assumption) | exact act_s5 (by assumption) (by assumption) | exact act_s6 (by assumption) (by assumption) (by assumption) | exact act_s7 (by assumption) (by assumption) (by assumption)
        rw [hact]
        exact ⟨[.int .u8 x.r, .int .u32 x.n, .int .u32 x.item, .int .u32 x.qty, .int .u32 x.price, .int .u8 x.vr, .int .u32 x.vn, .slice A x.ap.length c, .slice B x.re.length d, .int .u8 x.st], rfl, LineR.ends (L := gs [⟨g1, 27, [.int .u8 x.r, .int .u32 x.n, .int .u32 x.item, .int .u32 x.qty, .int .u32 x.price, .int .u8 x.vr, .int .u32 x.vn, .slice A x.ap.length c, .slice B x.re.length d, .int .u8 x.st]⟩, ⟨g2, 33, [.int .u8 o.r, .int .u32 o.n, .int .u32 o.d0, .int .u32 o.d1, .int .u32 o.d2, .int .u32 o.d3, .int .u32 o.d4, .int .u32 o.d5, .int .u32 o.d6, .int .u32 o.d7, .int .u64 o.time, .int .u32 o.who, .int .u8 o.cr, .int .u32 o.cn, .int .u8 o.kind, .int .u8 o.er, .int .u32 o.en, .int .u32 o.tt, .int .u8 o.roles, .int .u8 o.depth, .int .u64 o.cap, .int .u8 o.ar, .int .u32 o.an, .int .u8 o.vr, .int .u32 o.vn, .int .u32 o.item, .int .u32 o.qty, .int .u32 o.price, .slice A0 n0 c0]⟩, ⟨g3, 27, [.int .u8 x.r, .int .u32 x.n, .int .u32 x.item, .int .u32 x.qty, .int .u32 x.price, .int .u8 x.vr, .int .u32 x.vn, .slice A x.ap.length c, .slice B x.re.length d, .int .u8 x.st]⟩]) ⟨A, c, B, d, rfl, (hI.fact 0 rfl), (hI.fact 1 rfl)⟩, hI.keep.below⟩
      · intro hb3
        replace hT := hT.rebool (b := (x.st : Int) != 0) 18 false (by kernel_rfl) hb3
        have hb3d := eq_of_bne_false hb3
        refine go_ 4 0 [1] [2, 3, 4, 5, 18, 22] [0, 1, 2] (by kernel_rfl) hI hT ?_
        rintro g hg
        obtain rfl := len0 hg
        clear hg
        refine ⟨[(2, .pointer (some ⟨g1, 0, none⟩)), (3, .pointer (some ⟨g2, 0, none⟩)), (4, .pointer (some ⟨g3, 0, none⟩)), (5, .int .i64 0), (18, .bool false), (22, .bool (decide ((o.kind : Int) ≥ 6)))], [⟨g1, 27, [.int .u8 x.r, .int .u32 x.n, .int .u32 x.item, .int .u32 x.qty, .int .u32 x.price, .int .u8 x.vr, .int .u32 x.vn, .slice A x.ap.length c, .slice B x.re.length d, .int .u8 x.st]⟩, ⟨g2, 33, [.int .u8 o.r, .int .u32 o.n, .int .u32 o.d0, .int .u32 o.d1, .int .u32 o.d2, .int .u32 o.d3, .int .u32 o.d4, .int .u32 o.d5, .int .u32 o.d6, .int .u32 o.d7, .int .u64 o.time, .int .u32 o.who, .int .u8 o.cr, .int .u32 o.cn, .int .u8 o.kind, .int .u8 o.er, .int .u32 o.en, .int .u32 o.tt, .int .u8 o.roles, .int .u8 o.depth, .int .u64 o.cap, .int .u8 o.ar, .int .u32 o.an, .int .u8 o.vr, .int .u32 o.vn, .int .u32 o.item, .int .u32 o.qty, .int .u32 o.price, .slice A0 n0 c0]⟩, ⟨g3, 27, [.int .u8 0, .int .u32 0, .int .u32 0, .int .u32 0, .int .u32 0, .int .u8 0, .int .u32 0, .slice none 0 0, .slice none 0 0, .int .u8 0]⟩], [⟨1, [1, 1, 0, 0], 8⟩, ⟨0, [1, 1, 0, 1], 0⟩, ⟨0, [1, 1, 1], 0⟩], [.pointer (some ⟨g2, 14, none⟩)], [], by kernel_rfl, trivial, ?_⟩
        clear hI hT
        intro a w7 hI hT
        refine bcase (decide ((o.kind : Int) ≥ 6)) ?_ ?_
        · intro hb4
          replace hT := hT.rebool (b := decide ((o.kind : Int) ≥ 6)) 22 true (by kernel_rfl) hb4
          have hb4d := of_decide_eq_true hb4
          refine go_ 8 0 [1, 0] [2, 3, 4, 5, 29] [0, 1, 2] (by kernel_rfl) hI hT ?_
          rintro g hg
          obtain rfl := len0 hg
          clear hg
          refine ⟨[(2, .pointer (some ⟨g1, 0, none⟩)), (3, .pointer (some ⟨g2, 0, none⟩)), (4, .pointer (some ⟨g3, 0, none⟩)), (5, .int .i64 0), (29, .bool (!((o.vr : Int) == x.vr && ((o.vn : Int) == x.vn && true))))], [⟨g1, 27, [.int .u8 x.r, .int .u32 x.n, .int .u32 x.item, .int .u32 x.qty, .int .u32 x.price, .int .u8 x.vr, .int .u32 x.vn, .slice A x.ap.length c, .slice B x.re.length d, .int .u8 x.st]⟩, ⟨g2, 33, [.int .u8 o.r, .int .u32 o.n, .int .u32 o.d0, .int .u32 o.d1, .int .u32 o.d2, .int .u32 o.d3, .int .u32 o.d4, .int .u32 o.d5, .int .u32 o.d6, .int .u32 o.d7, .int .u64 o.time, .int .u32 o.who, .int .u8 o.cr, .int .u32 o.cn, .int .u8 o.kind, .int .u8 o.er, .int .u32 o.en, .int .u32 o.tt, .int .u8 o.roles, .int .u8 o.depth, .int .u64 o.cap, .int .u8 o.ar, .int .u32 o.an, .int .u8 o.vr, .int .u32 o.vn, .int .u32 o.item, .int .u32 o.qty, .int .u32 o.price, .slice A0 n0 c0]⟩, ⟨g3, 27, [.int .u8 0, .int .u32 0, .int .u32 0, .int .u32 0, .int .u32 0, .int .u8 0, .int .u32 0, .slice none 0 0, .slice none 0 0, .int .u8 0]⟩], [⟨0, [1, 1, 0, 1], 0⟩, ⟨0, [1, 1, 1], 0⟩], [.pointer (some ⟨g2, 23, none⟩), .pointer (some ⟨g1, 5, none⟩)], [], by kernel_rfl, trivial, ?_⟩
          clear hI hT
          intro a w8 hI hT
          refine bcase ((o.vr : Int) == x.vr && ((o.vn : Int) == x.vn && true)) ?_ ?_
          · intro hb5
            replace hT := hT.rebool (b := !((o.vr : Int) == x.vr && ((o.vn : Int) == x.vn && true))) 29 false (by kernel_rfl) (notT hb5)
            refine go_ 14 0 [1] [2, 3, 4, 5, 32, 33] [0, 1, 2] (by kernel_rfl) hI hT ?_
            rintro g hg
            obtain rfl := len0 hg
            clear hg
            refine ⟨[(2, .pointer (some ⟨g1, 0, none⟩)), (3, .pointer (some ⟨g2, 0, none⟩)), (4, .pointer (some ⟨g3, 0, none⟩)), (5, .int .i64 0), (32, .int .u8 o.kind), (33, .bool ((o.kind : Int) == 4))], [⟨g1, 27, [.int .u8 x.r, .int .u32 x.n, .int .u32 x.item, .int .u32 x.qty, .int .u32 x.price, .int .u8 x.vr, .int .u32 x.vn, .slice A x.ap.length c, .slice B x.re.length d, .int .u8 x.st]⟩, ⟨g2, 33, [.int .u8 o.r, .int .u32 o.n, .int .u32 o.d0, .int .u32 o.d1, .int .u32 o.d2, .int .u32 o.d3, .int .u32 o.d4, .int .u32 o.d5, .int .u32 o.d6, .int .u32 o.d7, .int .u64 o.time, .int .u32 o.who, .int .u8 o.cr, .int .u32 o.cn, .int .u8 o.kind, .int .u8 o.er, .int .u32 o.en, .int .u32 o.tt, .int .u8 o.roles, .int .u8 o.depth, .int .u64 o.cap, .int .u8 o.ar, .int .u32 o.an, .int .u8 o.vr, .int .u32 o.vn, .int .u32 o.item, .int .u32 o.qty, .int .u32 o.price, .slice A0 n0 c0]⟩, ⟨g3, 27, [.int .u8 0, .int .u32 0, .int .u32 0, .int .u32 0, .int .u32 0, .int .u8 0, .int .u32 0, .slice none 0 0, .slice none 0 0, .int .u8 0]⟩], [⟨0, [1, 1, 1, 0, 1, 0, 1], 0⟩, ⟨2, [], 0⟩, ⟨0, [1, 1, 1, 1], 0⟩], [.pointer (some ⟨g2, 14, none⟩)], [], by kernel_rfl, trivial, ?_⟩
            clear hI hT
            intro a w9 hI hT
            refine condG_ ((o.kind : Int) == 4) hT (by kernel_rfl) ?_ ?_
            · intro hb6
              have hb6d := eq_of_beq hb6
              refine go_ 30 0 [1, 0, 1, 0, 0, 0, 0, 2] [4, 5] [2] (by kernel_rfl) hI hT ?_
              rintro g hg
              obtain rfl := len0 hg
              clear hg
              refine ⟨[(4, .pointer (some ⟨g3, 0, none⟩)), (5, .int .i64 0)], [⟨g3, 27, [.int .u8 x.r, .int .u32 x.n, .int .u32 x.item, .int .u32 o.qty, .int .u32 x.price, .int .u8 o.r, .int .u32 o.n, .slice none 0 0, .slice none 0 0, .int .u8 x.st]⟩], [⟨0, [1, 1, 1, 1, 1], 0⟩], [.pointer (some ⟨g2, 26, none⟩), .pointer (some ⟨g1, 3, none⟩), .pointer (some ⟨g2, 0, none⟩), .pointer (some ⟨g1, 5, none⟩), .pointer (some ⟨g1, 7, none⟩), .pointer (some ⟨g1, 8, none⟩), .pointer (some ⟨g1, 0, none⟩), .pointer (some ⟨g3, 0, none⟩)], [], by kernel_rfl, trivial, ?_⟩
              clear hI hT
              intro a w10 hI hT
              refine ret_ [0] (rs := [.cell 4 27, .tmp 5]) (vs := [.agg #[.int .u8 x.r, .int .u32 x.n, .int .u32 x.item, .int .u32 o.qty, .int .u32 x.price, .int .u8 o.r, .int .u32 o.n, .slice none 0 0, .slice none 0 0, .int .u8 x.st], .int .i64 0]) (l := [.pointer (some ⟨g3, 0, none⟩)]) hI hT (by kernel_rfl) (by kernel_rfl) (by kernel_rfl) (by kernel_rfl) ?_
              have hact : actM x o = (({ x with qty := o.qty, vr := o.r, vn := o.n, ap := [], re := [] } : LineM), 0) := by first | (exfalso; omega) | exact act_none (by omega) (by omega) (by omega) (by omega) | exact act_stale1 (by omega) (by omega) (by assumption) | exact act_stale2 (by omega) (by omega) (by assumption) (by assumption) | exact act_s4 (by assumption) (by assumption) | exact act_s5 (by assumption) (by assumption) | exact act_s6 (by assumption) (by assumption) (by assumption) | exact act_s7 (by assumption) (by assumption) (by assumption)
              rw [hact]
              exact ⟨[.int .u8 x.r, .int .u32 x.n, .int .u32 x.item, .int .u32 o.qty, .int .u32 x.price, .int .u8 o.r, .int .u32 o.n, .slice none 0 0, .slice none 0 0, .int .u8 x.st], rfl, LineR.ends (L := gs [⟨g3, 27, [.int .u8 x.r, .int .u32 x.n, .int .u32 x.item, .int .u32 o.qty, .int .u32 x.price, .int .u8 o.r, .int .u32 o.n, .slice none 0 0, .slice none 0 0, .int .u8 x.st]⟩]) ⟨none, 0, none, 0, rfl, Rp.slice_nil, Rp.slice_nil⟩, hI.keep.below⟩
            · intro hb6
              have hb6d := ne_of_beq_false' hb6
              refine go_ 5 0 [] [2, 3, 4, 5, 32, 43] [0, 1, 2] (by kernel_rfl) hI hT ?_
              rintro g hg
              obtain rfl := len0 hg
              clear hg
              refine ⟨[(2, .pointer (some ⟨g1, 0, none⟩)), (3, .pointer (some ⟨g2, 0, none⟩)), (4, .pointer (some ⟨g3, 0, none⟩)), (5, .int .i64 0), (32, .int .u8 o.kind), (43, .bool ((o.kind : Int) == 5))], [⟨g1, 27, [.int .u8 x.r, .int .u32 x.n, .int .u32 x.item, .int .u32 x.qty, .int .u32 x.price, .int .u8 x.vr, .int .u32 x.vn, .slice A x.ap.length c, .slice B x.re.length d, .int .u8 x.st]⟩, ⟨g2, 33, [.int .u8 o.r, .int .u32 o.n, .int .u32 o.d0, .int .u32 o.d1, .int .u32 o.d2, .int .u32 o.d3, .int .u32 o.d4, .int .u32 o.d5, .int .u32 o.d6, .int .u32 o.d7, .int .u64 o.time, .int .u32 o.who, .int .u8 o.cr, .int .u32 o.cn, .int .u8 o.kind, .int .u8 o.er, .int .u32 o.en, .int .u32 o.tt, .int .u8 o.roles, .int .u8 o.depth, .int .u64 o.cap, .int .u8 o.ar, .int .u32 o.an, .int .u8 o.vr, .int .u32 o.vn, .int .u32 o.item, .int .u32 o.qty, .int .u32 o.price, .slice A0 n0 c0]⟩, ⟨g3, 27, [.int .u8 0, .int .u32 0, .int .u32 0, .int .u32 0, .int .u32 0, .int .u8 0, .int .u32 0, .slice none 0 0, .slice none 0 0, .int .u8 0]⟩], [⟨0, [1, 1, 1, 0, 1, 0, 1, 1, 1], 0⟩, ⟨2, [], 0⟩, ⟨0, [1, 1, 1, 1], 0⟩], [], [], by kernel_rfl, trivial, ?_⟩
              clear hI hT
              intro a w11 hI hT
              refine condG_ ((o.kind : Int) == 5) hT (by kernel_rfl) ?_ ?_
              · intro hb7
                have hb7d := eq_of_beq hb7
                refine go_ 11 0 [0, 0, 2] [4, 5] [2] (by kernel_rfl) hI hT ?_
                rintro g hg
                obtain rfl := len0 hg
                clear hg
                refine ⟨[(4, .pointer (some ⟨g3, 0, none⟩)), (5, .int .i64 0)], [⟨g3, 27, [.int .u8 x.r, .int .u32 x.n, .int .u32 x.item, .int .u32 x.qty, .int .u32 x.price, .int .u8 x.vr, .int .u32 x.vn, .slice A x.ap.length c, .slice B x.re.length d, .int .u8 1]⟩], [⟨0, [1, 1, 1, 1, 1], 0⟩], [.pointer (some ⟨g1, 9, none⟩), .pointer (some ⟨g1, 0, none⟩), .pointer (some ⟨g3, 0, none⟩)], [], by kernel_rfl, trivial, ?_⟩
                clear hI hT
                intro a w12 hI hT
                refine ret_ [0] (rs := [.cell 4 27, .tmp 5]) (vs := [.agg #[.int .u8 x.r, .int .u32 x.n, .int .u32 x.item, .int .u32 x.qty, .int .u32 x.price, .int .u8 x.vr, .int .u32 x.vn, .slice A x.ap.length c, .slice B x.re.length d, .int .u8 1], .int .i64 0]) (l := [.pointer (some ⟨g3, 0, none⟩)]) hI hT (by kernel_rfl) (by kernel_rfl) (by kernel_rfl) (by kernel_rfl) ?_
                have hact : actM x o = (({ x with st := 1 } : LineM), 0) := by first | (exfalso; omega) | exact act_none (by omega) (by omega) (by omega) (by omega) | exact act_stale1 (by omega) (by omega) (by assumption) | exact act_stale2 (by omega) (by omega) (by assumption) (by assumption) | exact act_s4 (by assumption) (by assumption) | exact act_s5 (by assumption) (by assumption) | exact act_s6 (by assumption) (by assumption) (by assumption) | exact act_s7 (by assumption) (by assumption) (by assumption)
                rw [hact]
                exact ⟨[.int .u8 x.r, .int .u32 x.n, .int .u32 x.item, .int .u32 x.qty, .int .u32 x.price, .int .u8 x.vr, .int .u32 x.vn, .slice A x.ap.length c, .slice B x.re.length d, .int .u8 1], rfl, LineR.ends (L := gs [⟨g3, 27, [.int .u8 x.r, .int .u32 x.n, .int .u32 x.item, .int .u32 x.qty, .int .u32 x.price, .int .u8 x.vr, .int .u32 x.vn, .slice A x.ap.length c, .slice B x.re.length d, .int .u8 1]⟩]) ⟨A, c, B, d, rfl, (hI.fact 0 rfl), (hI.fact 1 rfl)⟩, hI.keep.below⟩
              · intro hb7
                have hb7d := ne_of_beq_false' hb7
                refine go_ 5 0 [] [2, 3, 4, 5, 32, 46] [0, 1, 2] (by kernel_rfl) hI hT ?_
                rintro g hg
                obtain rfl := len0 hg
                clear hg
                refine ⟨[(2, .pointer (some ⟨g1, 0, none⟩)), (3, .pointer (some ⟨g2, 0, none⟩)), (4, .pointer (some ⟨g3, 0, none⟩)), (5, .int .i64 0), (32, .int .u8 o.kind), (46, .bool ((o.kind : Int) == 6))], [⟨g1, 27, [.int .u8 x.r, .int .u32 x.n, .int .u32 x.item, .int .u32 x.qty, .int .u32 x.price, .int .u8 x.vr, .int .u32 x.vn, .slice A x.ap.length c, .slice B x.re.length d, .int .u8 x.st]⟩, ⟨g2, 33, [.int .u8 o.r, .int .u32 o.n, .int .u32 o.d0, .int .u32 o.d1, .int .u32 o.d2, .int .u32 o.d3, .int .u32 o.d4, .int .u32 o.d5, .int .u32 o.d6, .int .u32 o.d7, .int .u64 o.time, .int .u32 o.who, .int .u8 o.cr, .int .u32 o.cn, .int .u8 o.kind, .int .u8 o.er, .int .u32 o.en, .int .u32 o.tt, .int .u8 o.roles, .int .u8 o.depth, .int .u64 o.cap, .int .u8 o.ar, .int .u32 o.an, .int .u8 o.vr, .int .u32 o.vn, .int .u32 o.item, .int .u32 o.qty, .int .u32 o.price, .slice A0 n0 c0]⟩, ⟨g3, 27, [.int .u8 0, .int .u32 0, .int .u32 0, .int .u32 0, .int .u32 0, .int .u8 0, .int .u32 0, .slice none 0 0, .slice none 0 0, .int .u8 0]⟩], [⟨0, [1, 1, 1, 0, 1, 0, 1, 1, 1, 1, 1], 0⟩, ⟨2, [], 0⟩, ⟨0, [1, 1, 1, 1], 0⟩], [], [], by kernel_rfl, trivial, ?_⟩
                clear hI hT
                intro a w13 hI hT
                refine condG_ ((o.kind : Int) == 6) hT (by kernel_rfl) ?_ ?_
                · intro hb8
                  have hb8d := eq_of_beq hb8
                  refine go_ 5 0 [0, 1] [2, 4, 5, 49, 51] [0, 2] (by kernel_rfl) hI hT ?_
                  rintro g hg
                  obtain rfl := len0 hg
                  clear hg
                  refine ⟨[(2, .pointer (some ⟨g1, 0, none⟩)), (4, .pointer (some ⟨g3, 0, none⟩)), (5, .int .i64 0), (49, .slice A x.ap.length c), (51, .int .u32 o.who)], [⟨g1, 27, [.int .u8 x.r, .int .u32 x.n, .int .u32 x.item, .int .u32 x.qty, .int .u32 x.price, .int .u8 x.vr, .int .u32 x.vn, .slice A x.ap.length c, .slice B x.re.length d, .int .u8 x.st]⟩, ⟨g3, 27, [.int .u8 0, .int .u32 0, .int .u32 0, .int .u32 0, .int .u32 0, .int .u8 0, .int .u32 0, .slice none 0 0, .slice none 0 0, .int .u8 0]⟩], [⟨1, [1, 1, 1, 0, 1, 0, 1, 1, 1, 1, 1, 0], 4⟩, ⟨2, [], 0⟩, ⟨0, [1, 1, 1, 1], 0⟩], [.pointer (some ⟨g1, 7, none⟩), .pointer (some ⟨g2, 11, none⟩)], [], by kernel_rfl, trivial, ?_⟩
                  clear hI hT
                  intro a w14 hI hT
                  refine callG_ (some 52) 29 #[.slice A x.ap.length c, .int .u32 o.who] hT (by kernel_rfl) (withR_any _ A c x.ap o.who _ (hI.fact 0 rfl) (by first | assumption | omega | (dsimp only; omega))) ?_
                  rintro e w15 ⟨A4, c5, rfl, hr, hk⟩
                  refine ⟨_, rfl, ?_⟩
                  have hF1 := hI.got hk hr
                  replace hI := (hI.after hk).add (f := ⟨_, U32s, [.slice A4 ((ins x.ap o.who).length) c5], (ins x.ap o.who)⟩) hF1
                  clear hT
                  intro a hT
                  refine go_ 10 0 [0, 0, 1] [4, 5] [1] (by kernel_rfl) hI hT ?_
                  rintro g hg
                  obtain rfl := len0 hg
                  clear hg
                  refine ⟨[(4, .pointer (some ⟨g3, 0, none⟩)), (5, .int .i64 0)], [⟨g3, 27, [.int .u8 x.r, .int .u32 x.n, .int .u32 x.item, .int .u32 x.qty, .int .u32 x.price, .int .u8 x.vr, .int .u32 x.vn, .slice A4 ((ins x.ap o.who).length) c5, .slice B x.re.length d, .int .u8 x.st]⟩], [⟨0, [1, 1, 1, 1, 1], 0⟩], [.pointer (some ⟨g1, 7, none⟩), .pointer (some ⟨g1, 0, none⟩), .pointer (some ⟨g3, 0, none⟩)], [], by kernel_rfl, trivial, ?_⟩
                  clear hI hT
                  intro a w16 hI hT
                  refine ret_ [0] (rs := [.cell 4 27, .tmp 5]) (vs := [.agg #[.int .u8 x.r, .int .u32 x.n, .int .u32 x.item, .int .u32 x.qty, .int .u32 x.price, .int .u8 x.vr, .int .u32 x.vn, .slice A4 ((ins x.ap o.who).length) c5, .slice B x.re.length d, .int .u8 x.st], .int .i64 0]) (l := [.pointer (some ⟨g3, 0, none⟩)]) hI hT (by kernel_rfl) (by kernel_rfl) (by kernel_rfl) (by kernel_rfl) ?_
                  have hact : actM x o = (({ x with ap := (ins x.ap o.who) } : LineM), 0) := by first | (exfalso; omega) | exact act_none (by omega) (by omega) (by omega) (by omega) | exact act_stale1 (by omega) (by omega) (by assumption) | exact act_stale2 (by omega) (by omega) (by assumption) (by assumption) | exact act_s4 (by assumption) (by assumption) | exact act_s5 (by assumption) (by assumption) | exact act_s6 (by assumption) (by assumption) (by assumption) | exact act_s7 (by assumption) (by assumption) (by assumption)
                  rw [hact]
                  exact ⟨[.int .u8 x.r, .int .u32 x.n, .int .u32 x.item, .int .u32 x.qty, .int .u32 x.price, .int .u8 x.vr, .int .u32 x.vn, .slice A4 ((ins x.ap o.who).length) c5, .slice B x.re.length d, .int .u8 x.st], rfl, LineR.ends (L := gs [⟨g3, 27, [.int .u8 x.r, .int .u32 x.n, .int .u32 x.item, .int .u32 x.qty, .int .u32 x.price, .int .u8 x.vr, .int .u32 x.vn, .slice A4 ((ins x.ap o.who).length) c5, .slice B x.re.length d, .int .u8 x.st]⟩]) ⟨A4, c5, B, d, rfl, (hI.fact 0 rfl), (hI.fact 2 rfl)⟩, hI.keep.below⟩
                · intro hb8
                  have hb8d := ne_of_beq_false' hb8
                  refine go_ 5 0 [] [2, 3, 4, 5, 54] [0, 1, 2] (by kernel_rfl) hI hT ?_
                  rintro g hg
                  obtain rfl := len0 hg
                  clear hg
                  refine ⟨[(2, .pointer (some ⟨g1, 0, none⟩)), (3, .pointer (some ⟨g2, 0, none⟩)), (4, .pointer (some ⟨g3, 0, none⟩)), (5, .int .i64 0), (54, .bool ((o.kind : Int) == 7))], [⟨g1, 27, [.int .u8 x.r, .int .u32 x.n, .int .u32 x.item, .int .u32 x.qty, .int .u32 x.price, .int .u8 x.vr, .int .u32 x.vn, .slice A x.ap.length c, .slice B x.re.length d, .int .u8 x.st]⟩, ⟨g2, 33, [.int .u8 o.r, .int .u32 o.n, .int .u32 o.d0, .int .u32 o.d1, .int .u32 o.d2, .int .u32 o.d3, .int .u32 o.d4, .int .u32 o.d5, .int .u32 o.d6, .int .u32 o.d7, .int .u64 o.time, .int .u32 o.who, .int .u8 o.cr, .int .u32 o.cn, .int .u8 o.kind, .int .u8 o.er, .int .u32 o.en, .int .u32 o.tt, .int .u8 o.roles, .int .u8 o.depth, .int .u64 o.cap, .int .u8 o.ar, .int .u32 o.an, .int .u8 o.vr, .int .u32 o.vn, .int .u32 o.item, .int .u32 o.qty, .int .u32 o.price, .slice A0 n0 c0]⟩, ⟨g3, 27, [.int .u8 0, .int .u32 0, .int .u32 0, .int .u32 0, .int .u32 0, .int .u8 0, .int .u32 0, .slice none 0 0, .slice none 0 0, .int .u8 0]⟩], [⟨0, [1, 1, 1, 0, 1, 0, 1, 1, 1, 1, 1, 1, 1], 0⟩, ⟨2, [], 0⟩, ⟨0, [1, 1, 1, 1], 0⟩], [], [], by kernel_rfl, trivial, ?_⟩
                  clear hI hT
                  intro a w17 hI hT
                  refine condG_ ((o.kind : Int) == 7) hT (by kernel_rfl) ?_ ?_
                  · intro hb9
                    have hb9d := eq_of_beq hb9
                    refine go_ 5 0 [0, 1] [2, 4, 5, 57, 59] [0, 2] (by kernel_rfl) hI hT ?_
                    rintro g hg
                    obtain rfl := len0 hg
                    clear hg
                    refine ⟨[(2, .pointer (some ⟨g1, 0, none⟩)), (4, .pointer (some ⟨g3, 0, none⟩)), (5, .int .i64 0), (57, .slice B x.re.length d), (59, .int .u32 o.who)], [⟨g1, 27, [.int .u8 x.r, .int .u32 x.n, .int .u32 x.item, .int .u32 x.qty, .int .u32 x.price, .int .u8 x.vr, .int .u32 x.vn, .slice A x.ap.length c, .slice B x.re.length d, .int .u8 x.st]⟩, ⟨g3, 27, [.int .u8 0, .int .u32 0, .int .u32 0, .int .u32 0, .int .u32 0, .int .u8 0, .int .u32 0, .slice none 0 0, .slice none 0 0, .int .u8 0]⟩], [⟨1, [1, 1, 1, 0, 1, 0, 1, 1, 1, 1, 1, 1, 1, 0], 4⟩, ⟨2, [], 0⟩, ⟨0, [1, 1, 1, 1], 0⟩], [.pointer (some ⟨g1, 8, none⟩), .pointer (some ⟨g2, 11, none⟩)], [], by kernel_rfl, trivial, ?_⟩
                    clear hI hT
                    intro a w18 hI hT
                    refine callG_ (some 60) 29 #[.slice B x.re.length d, .int .u32 o.who] hT (by kernel_rfl) (withR_any _ B d x.re o.who _ (hI.fact 1 rfl) (by first | assumption | omega | (dsimp only; omega))) ?_
                    rintro e w19 ⟨A6, c7, rfl, hr, hk⟩
                    refine ⟨_, rfl, ?_⟩
                    have hF1 := hI.got hk hr
                    replace hI := (hI.after hk).add (f := ⟨_, U32s, [.slice A6 ((ins x.re o.who).length) c7], (ins x.re o.who)⟩) hF1
                    clear hT
                    intro a hT
                    refine go_ 10 0 [0, 0, 1] [4, 5] [1] (by kernel_rfl) hI hT ?_
                    rintro g hg
                    obtain rfl := len0 hg
                    clear hg
                    refine ⟨[(4, .pointer (some ⟨g3, 0, none⟩)), (5, .int .i64 0)], [⟨g3, 27, [.int .u8 x.r, .int .u32 x.n, .int .u32 x.item, .int .u32 x.qty, .int .u32 x.price, .int .u8 x.vr, .int .u32 x.vn, .slice A x.ap.length c, .slice A6 ((ins x.re o.who).length) c7, .int .u8 x.st]⟩], [⟨0, [1, 1, 1, 1, 1], 0⟩], [.pointer (some ⟨g1, 8, none⟩), .pointer (some ⟨g1, 0, none⟩), .pointer (some ⟨g3, 0, none⟩)], [], by kernel_rfl, trivial, ?_⟩
                    clear hI hT
                    intro a w20 hI hT
                    refine ret_ [0] (rs := [.cell 4 27, .tmp 5]) (vs := [.agg #[.int .u8 x.r, .int .u32 x.n, .int .u32 x.item, .int .u32 x.qty, .int .u32 x.price, .int .u8 x.vr, .int .u32 x.vn, .slice A x.ap.length c, .slice A6 ((ins x.re o.who).length) c7, .int .u8 x.st], .int .i64 0]) (l := [.pointer (some ⟨g3, 0, none⟩)]) hI hT (by kernel_rfl) (by kernel_rfl) (by kernel_rfl) (by kernel_rfl) ?_
                    have hact : actM x o = (({ x with re := (ins x.re o.who) } : LineM), 0) := by first | (exfalso; omega) | exact act_none (by omega) (by omega) (by omega) (by omega) | exact act_stale1 (by omega) (by omega) (by assumption) | exact act_stale2 (by omega) (by omega) (by assumption) (by assumption) | exact act_s4 (by assumption) (by assumption) | exact act_s5 (by assumption) (by assumption) | exact act_s6 (by assumption) (by assumption) (by assumption) | exact act_s7 (by assumption) (by assumption) (by assumption)
                    rw [hact]
                    exact ⟨[.int .u8 x.r, .int .u32 x.n, .int .u32 x.item, .int .u32 x.qty, .int .u32 x.price, .int .u8 x.vr, .int .u32 x.vn, .slice A x.ap.length c, .slice A6 ((ins x.re o.who).length) c7, .int .u8 x.st], rfl, LineR.ends (L := gs [⟨g3, 27, [.int .u8 x.r, .int .u32 x.n, .int .u32 x.item, .int .u32 x.qty, .int .u32 x.price, .int .u8 x.vr, .int .u32 x.vn, .slice A x.ap.length c, .slice A6 ((ins x.re o.who).length) c7, .int .u8 x.st]⟩]) ⟨A, c, A6, c7, rfl, (hI.fact 1 rfl), (hI.fact 0 rfl)⟩, hI.keep.below⟩
                  · intro hb9
                    have hb9d := ne_of_beq_false' hb9
                    refine go_ 8 0 [0, 2] [4, 5] [2] (by kernel_rfl) hI hT ?_
                    rintro g hg
                    obtain rfl := len0 hg
                    clear hg
                    refine ⟨[(4, .pointer (some ⟨g3, 0, none⟩)), (5, .int .i64 0)], [⟨g3, 27, [.int .u8 x.r, .int .u32 x.n, .int .u32 x.item, .int .u32 x.qty, .int .u32 x.price, .int .u8 x.vr, .int .u32 x.vn, .slice A x.ap.length c, .slice B x.re.length d, .int .u8 x.st]⟩], [⟨0, [1, 1, 1, 1, 1], 0⟩], [.pointer (some ⟨g1, 0, none⟩), .pointer (some ⟨g3, 0, none⟩)], [], by kernel_rfl, trivial, ?_⟩
                    clear hI hT
                    intro a w21 hI hT
                    refine ret_ [0] (rs := [.cell 4 27, .tmp 5]) (vs := [.agg #[.int .u8 x.r, .int .u32 x.n, .int .u32 x.item, .int .u32 x.qty, .int .u32 x.price, .int .u8 x.vr, .int .u32 x.vn, .slice A x.ap.length c, .slice B x.re.length d, .int .u8 x.st], .int .i64 0]) (l := [.pointer (some ⟨g3, 0, none⟩)]) hI hT (by kernel_rfl) (by kernel_rfl) (by kernel_rfl) (by kernel_rfl) ?_
                    have hact : actM x o = (x, 0) := by first | (exfalso; omega) | exact act_none (by omega) (by omega) (by omega) (by omega) | exact act_stale1 (by omega) (by omega) (by assumption) | exact act_stale2 (by omega) (by omega) (by assumption) (by assumption) | exact act_s4 (by assumption) (by assumption) | exact act_s5 (by assumption) (by assumption) | exact act_s6 (by assumption) (by assumption) (by assumption) | exact act_s7 (by assumption) (by assumption) (by assumption)
                    rw [hact]
                    exact ⟨[.int .u8 x.r, .int .u32 x.n, .int .u32 x.item, .int .u32 x.qty, .int .u32 x.price, .int .u8 x.vr, .int .u32 x.vn, .slice A x.ap.length c, .slice B x.re.length d, .int .u8 x.st], rfl, LineR.ends (L := gs [⟨g3, 27, [.int .u8 x.r, .int .u32 x.n, .int .u32 x.item, .int .u32 x.qty, .int .u32 x.price, .int .u8 x.vr, .int .u32 x.vn, .slice A x.ap.length c, .slice B x.re.length d, .int .u8 x.st]⟩]) ⟨A, c, B, d, rfl, (hI.fact 0 rfl), (hI.fact 1 rfl)⟩, hI.keep.below⟩
          · intro hb5
            replace hT := hT.rebool (b := !((o.vr : Int) == x.vr && ((o.vn : Int) == x.vn && true))) 29 true (by kernel_rfl) (notF hb5)
            refine go_ 7 0 [0, 2] [2, 3, 4, 5] [0, 1, 2] (by kernel_rfl) hI hT ?_
            rintro g hg
            obtain rfl := len0 hg
            clear hg
            refine ⟨[(2, .pointer (some ⟨g1, 0, none⟩)), (3, .pointer (some ⟨g2, 0, none⟩)), (4, .pointer (some ⟨g3, 0, none⟩)), (5, .int .i64 278)], [⟨g1, 27, [.int .u8 x.r, .int .u32 x.n, .int .u32 x.item, .int .u32 x.qty, .int .u32 x.price, .int .u8 x.vr, .int .u32 x.vn, .slice A x.ap.length c, .slice B x.re.length d, .int .u8 x.st]⟩, ⟨g2, 33, [.int .u8 o.r, .int .u32 o.n, .int .u32 o.d0, .int .u32 o.d1, .int .u32 o.d2, .int .u32 o.d3, .int .u32 o.d4, .int .u32 o.d5, .int .u32 o.d6, .int .u32 o.d7, .int .u64 o.time, .int .u32 o.who, .int .u8 o.cr, .int .u32 o.cn, .int .u8 o.kind, .int .u8 o.er, .int .u32 o.en, .int .u32 o.tt, .int .u8 o.roles, .int .u8 o.depth, .int .u64 o.cap, .int .u8 o.ar, .int .u32 o.an, .int .u8 o.vr, .int .u32 o.vn, .int .u32 o.item, .int .u32 o.qty, .int .u32 o.price, .slice A0 n0 c0]⟩, ⟨g3, 27, [.int .u8 x.r, .int .u32 x.n, .int .u32 x.item, .int .u32 x.qty, .int .u32 x.price, .int .u8 x.vr, .int .u32 x.vn, .slice A x.ap.length c, .slice B x.re.length d, .int .u8 x.st]⟩], [⟨0, [1, 1, 0, 1, 0, 1], 0⟩, ⟨0, [1, 1, 1], 0⟩], [.pointer (some ⟨g1, 0, none⟩), .pointer (some ⟨g3, 0, none⟩)], [], by kernel_rfl, trivial, ?_⟩
            clear hI hT
            intro a w22 hI hT
            refine ret_ [2] (rs := [.cell 4 27, .tmp 5]) (vs := [.agg #[.int .u8 x.r, .int .u32 x.n, .int .u32 x.item, .int .u32 x.qty, .int .u32 x.price, .int .u8 x.vr, .int .u32 x.vn, .slice A x.ap.length c, .slice B x.re.length d, .int .u8 x.st], .int .i64 278]) (l := [.pointer (some ⟨g3, 0, none⟩)]) hI hT (by kernel_rfl) (by kernel_rfl) (by kernel_rfl) (by kernel_rfl) ?_
            have hact : actM x o = (x, 278) := by first | (exfalso; omega) | exact act_none (by omega) (by omega) (by omega) (by omega) | exact act_stale1 (by omega) (by omega) (by assumption) | exact act_stale2 (by omega) (by omega) (by assumption) (by assumption) | exact act_s4 (by assumption) (by assumption) | exact act_s5 (by assumption) (by assumption) | exact act_s6 (by assumption) (by assumption) (by assumption) | exact act_s7 (by assumption) (by assumption) (by assumption)
            rw [hact]
            exact ⟨[.int .u8 x.r, .int .u32 x.n, .int .u32 x.item, .int .u32 x.qty, .int .u32 x.price, .int .u8 x.vr, .int .u32 x.vn, .slice A x.ap.length c, .slice B x.re.length d, .int .u8 x.st], rfl, LineR.ends (L := gs [⟨g1, 27, [.int .u8 x.r, .int .u32 x.n, .int .u32 x.item, .int .u32 x.qty, .int .u32 x.price, .int .u8 x.vr, .int .u32 x.vn, .slice A x.ap.length c, .slice B x.re.length d, .int .u8 x.st]⟩, ⟨g2, 33, [.int .u8 o.r, .int .u32 o.n, .int .u32 o.d0, .int .u32 o.d1, .int .u32 o.d2, .int .u32 o.d3, .int .u32 o.d4, .int .u32 o.d5, .int .u32 o.d6, .int .u32 o.d7, .int .u64 o.time, .int .u32 o.who, .int .u8 o.cr, .int .u32 o.cn, .int .u8 o.kind, .int .u8 o.er, .int .u32 o.en, .int .u32 o.tt, .int .u8 o.roles, .int .u8 o.depth, .int .u64 o.cap, .int .u8 o.ar, .int .u32 o.an, .int .u8 o.vr, .int .u32 o.vn, .int .u32 o.item, .int .u32 o.qty, .int .u32 o.price, .slice A0 n0 c0]⟩, ⟨g3, 27, [.int .u8 x.r, .int .u32 x.n, .int .u32 x.item, .int .u32 x.qty, .int .u32 x.price, .int .u8 x.vr, .int .u32 x.vn, .slice A x.ap.length c, .slice B x.re.length d, .int .u8 x.st]⟩]) ⟨A, c, B, d, rfl, (hI.fact 0 rfl), (hI.fact 1 rfl)⟩, hI.keep.below⟩
        · intro hb4
          replace hT := hT.rebool (b := decide ((o.kind : Int) ≥ 6)) 22 false (by kernel_rfl) hb4
          have hb4d := of_decide_eq_false hb4
          refine go_ 22 0 [1] [2, 3, 4, 5, 32, 33] [0, 1, 2] (by kernel_rfl) hI hT ?_
          rintro g hg
          obtain rfl := len0 hg
          clear hg
          refine ⟨[(2, .pointer (some ⟨g1, 0, none⟩)), (3, .pointer (some ⟨g2, 0, none⟩)), (4, .pointer (some ⟨g3, 0, none⟩)), (5, .int .i64 0), (32, .int .u8 o.kind), (33, .bool ((o.kind : Int) == 4))], [⟨g1, 27, [.int .u8 x.r, .int .u32 x.n, .int .u32 x.item, .int .u32 x.qty, .int .u32 x.price, .int .u8 x.vr, .int .u32 x.vn, .slice A x.ap.length c, .slice B x.re.length d, .int .u8 x.st]⟩, ⟨g2, 33, [.int .u8 o.r, .int .u32 o.n, .int .u32 o.d0, .int .u32 o.d1, .int .u32 o.d2, .int .u32 o.d3, .int .u32 o.d4, .int .u32 o.d5, .int .u32 o.d6, .int .u32 o.d7, .int .u64 o.time, .int .u32 o.who, .int .u8 o.cr, .int .u32 o.cn, .int .u8 o.kind, .int .u8 o.er, .int .u32 o.en, .int .u32 o.tt, .int .u8 o.roles, .int .u8 o.depth, .int .u64 o.cap, .int .u8 o.ar, .int .u32 o.an, .int .u8 o.vr, .int .u32 o.vn, .int .u32 o.item, .int .u32 o.qty, .int .u32 o.price, .slice A0 n0 c0]⟩, ⟨g3, 27, [.int .u8 0, .int .u32 0, .int .u32 0, .int .u32 0, .int .u32 0, .int .u8 0, .int .u32 0, .slice none 0 0, .slice none 0 0, .int .u8 0]⟩], [⟨0, [1, 1, 1, 0, 1, 0, 1], 0⟩, ⟨2, [], 0⟩, ⟨0, [1, 1, 1, 1], 0⟩], [.pointer (some ⟨g2, 14, none⟩)], [], by kernel_rfl, trivial, ?_⟩
          clear hI hT
          intro a w23 hI hT
          refine condG_ ((o.kind : Int) == 4) hT (by kernel_rfl) ?_ ?_
          · intro hb10
            have hb10d := eq_of_beq hb10
            refine go_ 30 0 [1, 0, 1, 0, 0, 0, 0, 2] [4, 5] [2] (by kernel_rfl) hI hT ?_
            rintro g hg
            obtain rfl := len0 hg
            clear hg
            refine ⟨[(4, .pointer (some ⟨g3, 0, none⟩)), (5, .int .i64 0)], [⟨g3, 27, [.int .u8 x.r, .int .u32 x.n, .int .u32 x.item, .int .u32 o.qty, .int .u32 x.price, .int .u8 o.r, .int .u32 o.n, .slice none 0 0, .slice none 0 0, .int .u8 x.st]⟩], [⟨0, [1, 1, 1, 1, 1], 0⟩], [.pointer (some ⟨g2, 26, none⟩), .pointer (some ⟨g1, 3, none⟩), .pointer (some ⟨g2, 0, none⟩), .pointer (some ⟨g1, 5, none⟩), .pointer (some ⟨g1, 7, none⟩), .pointer (some ⟨g1, 8, none⟩), .pointer (some ⟨g1, 0, none⟩), .pointer (some ⟨g3, 0, none⟩)], [], by kernel_rfl, trivial, ?_⟩
            clear hI hT
            intro a w24 hI hT
            refine ret_ [0] (rs := [.cell 4 27, .tmp 5]) (vs := [.agg #[.int .u8 x.r, .int .u32 x.n, .int .u32 x.item, .int .u32 o.qty, .int .u32 x.price, .int .u8 o.r, .int .u32 o.n, .slice none 0 0, .slice none 0 0, .int .u8 x.st], .int .i64 0]) (l := [.pointer (some ⟨g3, 0, none⟩)]) hI hT (by kernel_rfl) (by kernel_rfl) (by kernel_rfl) (by kernel_rfl) ?_
            have hact : actM x o = (({ x with qty := o.qty, vr := o.r, vn := o.n, ap := [], re := [] } : LineM), 0) := by first | (exfalso; omega) | exact act_none (by omega) (by omega) (by omega) (by omega) | exact act_stale1 (by omega) (by omega) (by assumption) | exact act_stale2 (by omega) (by omega) (by assumption) (by assumption) | exact act_s4 (by assumption) (by assumption) | exact act_s5 (by assumption) (by assumption) | exact act_s6 (by assumption) (by assumption) (by assumption) | exact act_s7 (by assumption) (by assumption) (by assumption)
            rw [hact]
            exact ⟨[.int .u8 x.r, .int .u32 x.n, .int .u32 x.item, .int .u32 o.qty, .int .u32 x.price, .int .u8 o.r, .int .u32 o.n, .slice none 0 0, .slice none 0 0, .int .u8 x.st], rfl, LineR.ends (L := gs [⟨g3, 27, [.int .u8 x.r, .int .u32 x.n, .int .u32 x.item, .int .u32 o.qty, .int .u32 x.price, .int .u8 o.r, .int .u32 o.n, .slice none 0 0, .slice none 0 0, .int .u8 x.st]⟩]) ⟨none, 0, none, 0, rfl, Rp.slice_nil, Rp.slice_nil⟩, hI.keep.below⟩
          · intro hb10
            have hb10d := ne_of_beq_false' hb10
            refine go_ 5 0 [] [2, 3, 4, 5, 32, 43] [0, 1, 2] (by kernel_rfl) hI hT ?_
            rintro g hg
            obtain rfl := len0 hg
            clear hg
            refine ⟨[(2, .pointer (some ⟨g1, 0, none⟩)), (3, .pointer (some ⟨g2, 0, none⟩)), (4, .pointer (some ⟨g3, 0, none⟩)), (5, .int .i64 0), (32, .int .u8 o.kind), (43, .bool ((o.kind : Int) == 5))], [⟨g1, 27, [.int .u8 x.r, .int .u32 x.n, .int .u32 x.item, .int .u32 x.qty, .int .u32 x.price, .int .u8 x.vr, .int .u32 x.vn, .slice A x.ap.length c, .slice B x.re.length d, .int .u8 x.st]⟩, ⟨g2, 33, [.int .u8 o.r, .int .u32 o.n, .int .u32 o.d0, .int .u32 o.d1, .int .u32 o.d2, .int .u32 o.d3, .int .u32 o.d4, .int .u32 o.d5, .int .u32 o.d6, .int .u32 o.d7, .int .u64 o.time, .int .u32 o.who, .int .u8 o.cr, .int .u32 o.cn, .int .u8 o.kind, .int .u8 o.er, .int .u32 o.en, .int .u32 o.tt, .int .u8 o.roles, .int .u8 o.depth, .int .u64 o.cap, .int .u8 o.ar, .int .u32 o.an, .int .u8 o.vr, .int .u32 o.vn, .int .u32 o.item, .int .u32 o.qty, .int .u32 o.price, .slice A0 n0 c0]⟩, ⟨g3, 27, [.int .u8 0, .int .u32 0, .int .u32 0, .int .u32 0, .int .u32 0, .int .u8 0, .int .u32 0, .slice none 0 0, .slice none 0 0, .int .u8 0]⟩], [⟨0, [1, 1, 1, 0, 1, 0, 1, 1, 1], 0⟩, ⟨2, [], 0⟩, ⟨0, [1, 1, 1, 1], 0⟩], [], [], by kernel_rfl, trivial, ?_⟩
            clear hI hT
            intro a w25 hI hT
            refine condG_ ((o.kind : Int) == 5) hT (by kernel_rfl) ?_ ?_
            · intro hb11
              have hb11d := eq_of_beq hb11
              refine go_ 11 0 [0, 0, 2] [4, 5] [2] (by kernel_rfl) hI hT ?_
              rintro g hg
              obtain rfl := len0 hg
              clear hg
              refine ⟨[(4, .pointer (some ⟨g3, 0, none⟩)), (5, .int .i64 0)], [⟨g3, 27, [.int .u8 x.r, .int .u32 x.n, .int .u32 x.item, .int .u32 x.qty, .int .u32 x.price, .int .u8 x.vr, .int .u32 x.vn, .slice A x.ap.length c, .slice B x.re.length d, .int .u8 1]⟩], [⟨0, [1, 1, 1, 1, 1], 0⟩], [.pointer (some ⟨g1, 9, none⟩), .pointer (some ⟨g1, 0, none⟩), .pointer (some ⟨g3, 0, none⟩)], [], by kernel_rfl, trivial, ?_⟩
              clear hI hT
              intro a w26 hI hT
              refine ret_ [0] (rs := [.cell 4 27, .tmp 5]) (vs := [.agg #[.int .u8 x.r, .int .u32 x.n, .int .u32 x.item, .int .u32 x.qty, .int .u32 x.price, .int .u8 x.vr, .int .u32 x.vn, .slice A x.ap.length c, .slice B x.re.length d, .int .u8 1], .int .i64 0]) (l := [.pointer (some ⟨g3, 0, none⟩)]) hI hT (by kernel_rfl) (by kernel_rfl) (by kernel_rfl) (by kernel_rfl) ?_
              have hact : actM x o = (({ x with st := 1 } : LineM), 0) := by first | (exfalso; omega) | exact act_none (by omega) (by omega) (by omega) (by omega) | exact act_stale1 (by omega) (by omega) (by assumption) | exact act_stale2 (by omega) (by omega) (by assumption) (by assumption) | exact act_s4 (by assumption) (by assumption) | exact act_s5 (by assumption) (by assumption) | exact act_s6 (by assumption) (by assumption) (by assumption) | exact act_s7 (by assumption) (by assumption) (by assumption)
              rw [hact]
              exact ⟨[.int .u8 x.r, .int .u32 x.n, .int .u32 x.item, .int .u32 x.qty, .int .u32 x.price, .int .u8 x.vr, .int .u32 x.vn, .slice A x.ap.length c, .slice B x.re.length d, .int .u8 1], rfl, LineR.ends (L := gs [⟨g3, 27, [.int .u8 x.r, .int .u32 x.n, .int .u32 x.item, .int .u32 x.qty, .int .u32 x.price, .int .u8 x.vr, .int .u32 x.vn, .slice A x.ap.length c, .slice B x.re.length d, .int .u8 1]⟩]) ⟨A, c, B, d, rfl, (hI.fact 0 rfl), (hI.fact 1 rfl)⟩, hI.keep.below⟩
            · intro hb11
              have hb11d := ne_of_beq_false' hb11
              refine go_ 5 0 [] [2, 3, 4, 5, 32, 46] [0, 1, 2] (by kernel_rfl) hI hT ?_
              rintro g hg
              obtain rfl := len0 hg
              clear hg
              refine ⟨[(2, .pointer (some ⟨g1, 0, none⟩)), (3, .pointer (some ⟨g2, 0, none⟩)), (4, .pointer (some ⟨g3, 0, none⟩)), (5, .int .i64 0), (32, .int .u8 o.kind), (46, .bool ((o.kind : Int) == 6))], [⟨g1, 27, [.int .u8 x.r, .int .u32 x.n, .int .u32 x.item, .int .u32 x.qty, .int .u32 x.price, .int .u8 x.vr, .int .u32 x.vn, .slice A x.ap.length c, .slice B x.re.length d, .int .u8 x.st]⟩, ⟨g2, 33, [.int .u8 o.r, .int .u32 o.n, .int .u32 o.d0, .int .u32 o.d1, .int .u32 o.d2, .int .u32 o.d3, .int .u32 o.d4, .int .u32 o.d5, .int .u32 o.d6, .int .u32 o.d7, .int .u64 o.time, .int .u32 o.who, .int .u8 o.cr, .int .u32 o.cn, .int .u8 o.kind, .int .u8 o.er, .int .u32 o.en, .int .u32 o.tt, .int .u8 o.roles, .int .u8 o.depth, .int .u64 o.cap, .int .u8 o.ar, .int .u32 o.an, .int .u8 o.vr, .int .u32 o.vn, .int .u32 o.item, .int .u32 o.qty, .int .u32 o.price, .slice A0 n0 c0]⟩, ⟨g3, 27, [.int .u8 0, .int .u32 0, .int .u32 0, .int .u32 0, .int .u32 0, .int .u8 0, .int .u32 0, .slice none 0 0, .slice none 0 0, .int .u8 0]⟩], [⟨0, [1, 1, 1, 0, 1, 0, 1, 1, 1, 1, 1], 0⟩, ⟨2, [], 0⟩, ⟨0, [1, 1, 1, 1], 0⟩], [], [], by kernel_rfl, trivial, ?_⟩
              clear hI hT
              intro a w27 hI hT
              refine condG_ ((o.kind : Int) == 6) hT (by kernel_rfl) ?_ ?_
              · intro hb12
                have hb12d := eq_of_beq hb12
                refine go_ 5 0 [0, 1] [2, 4, 5, 49, 51] [0, 2] (by kernel_rfl) hI hT ?_
                rintro g hg
                obtain rfl := len0 hg
                clear hg
                refine ⟨[(2, .pointer (some ⟨g1, 0, none⟩)), (4, .pointer (some ⟨g3, 0, none⟩)), (5, .int .i64 0), (49, .slice A x.ap.length c), (51, .int .u32 o.who)], [⟨g1, 27, [.int .u8 x.r, .int .u32 x.n, .int .u32 x.item, .int .u32 x.qty, .int .u32 x.price, .int .u8 x.vr, .int .u32 x.vn, .slice A x.ap.length c, .slice B x.re.length d, .int .u8 x.st]⟩, ⟨g3, 27, [.int .u8 0, .int .u32 0, .int .u32 0, .int .u32 0, .int .u32 0, .int .u8 0, .int .u32 0, .slice none 0 0, .slice none 0 0, .int .u8 0]⟩], [⟨1, [1, 1, 1, 0, 1, 0, 1, 1, 1, 1, 1, 0], 4⟩, ⟨2, [], 0⟩, ⟨0, [1, 1, 1, 1], 0⟩], [.pointer (some ⟨g1, 7, none⟩), .pointer (some ⟨g2, 11, none⟩)], [], by kernel_rfl, trivial, ?_⟩
                clear hI hT
                intro a w28 hI hT
                refine callG_ (some 52) 29 #[.slice A x.ap.length c, .int .u32 o.who] hT (by kernel_rfl) (withR_any _ A c x.ap o.who _ (hI.fact 0 rfl) (by first | assumption | omega | (dsimp only; omega))) ?_
                rintro e w29 ⟨A8, c9, rfl, hr, hk⟩
                refine ⟨_, rfl, ?_⟩
                have hF1 := hI.got hk hr
                replace hI := (hI.after hk).add (f := ⟨_, U32s, [.slice A8 ((ins x.ap o.who).length) c9], (ins x.ap o.who)⟩) hF1
                clear hT
                intro a hT
                refine go_ 10 0 [0, 0, 1] [4, 5] [1] (by kernel_rfl) hI hT ?_
                rintro g hg
                obtain rfl := len0 hg
                clear hg
                refine ⟨[(4, .pointer (some ⟨g3, 0, none⟩)), (5, .int .i64 0)], [⟨g3, 27, [.int .u8 x.r, .int .u32 x.n, .int .u32 x.item, .int .u32 x.qty, .int .u32 x.price, .int .u8 x.vr, .int .u32 x.vn, .slice A8 ((ins x.ap o.who).length) c9, .slice B x.re.length d, .int .u8 x.st]⟩], [⟨0, [1, 1, 1, 1, 1], 0⟩], [.pointer (some ⟨g1, 7, none⟩), .pointer (some ⟨g1, 0, none⟩), .pointer (some ⟨g3, 0, none⟩)], [], by kernel_rfl, trivial, ?_⟩
                clear hI hT
                intro a w30 hI hT
                refine ret_ [0] (rs := [.cell 4 27, .tmp 5]) (vs := [.agg #[.int .u8 x.r, .int .u32 x.n, .int .u32 x.item, .int .u32 x.qty, .int .u32 x.price, .int .u8 x.vr, .int .u32 x.vn, .slice A8 ((ins x.ap o.who).length) c9, .slice B x.re.length d, .int .u8 x.st], .int .i64 0]) (l := [.pointer (some ⟨g3, 0, none⟩)]) hI hT (by kernel_rfl) (by kernel_rfl) (by kernel_rfl) (by kernel_rfl) ?_
                have hact : actM x o = (({ x with ap := (ins x.ap o.who) } : LineM), 0) := by first | (exfalso; omega) | exact act_none (by omega) (by omega) (by omega) (by omega) | exact act_stale1 (by omega) (by omega) (by assumption) | exact act_stale2 (by omega) (by omega) (by assumption) (by assumption) | exact act_s4 (by assumption) (by assumption) | exact act_s5 (by assumption) (by assumption) | exact act_s6 (by assumption) (by assumption) (by assumption) | exact act_s7 (by assumption) (by assumption) (by assumption)
                rw [hact]
                exact ⟨[.int .u8 x.r, .int .u32 x.n, .int .u32 x.item, .int .u32 x.qty, .int .u32 x.price, .int .u8 x.vr, .int .u32 x.vn, .slice A8 ((ins x.ap o.who).length) c9, .slice B x.re.length d, .int .u8 x.st], rfl, LineR.ends (L := gs [⟨g3, 27, [.int .u8 x.r, .int .u32 x.n, .int .u32 x.item, .int .u32 x.qty, .int .u32 x.price, .int .u8 x.vr, .int .u32 x.vn, .slice A8 ((ins x.ap o.who).length) c9, .slice B x.re.length d, .int .u8 x.st]⟩]) ⟨A8, c9, B, d, rfl, (hI.fact 0 rfl), (hI.fact 2 rfl)⟩, hI.keep.below⟩
              · intro hb12
                have hb12d := ne_of_beq_false' hb12
                refine go_ 5 0 [] [2, 3, 4, 5, 54] [0, 1, 2] (by kernel_rfl) hI hT ?_
                rintro g hg
                obtain rfl := len0 hg
                clear hg
                refine ⟨[(2, .pointer (some ⟨g1, 0, none⟩)), (3, .pointer (some ⟨g2, 0, none⟩)), (4, .pointer (some ⟨g3, 0, none⟩)), (5, .int .i64 0), (54, .bool ((o.kind : Int) == 7))], [⟨g1, 27, [.int .u8 x.r, .int .u32 x.n, .int .u32 x.item, .int .u32 x.qty, .int .u32 x.price, .int .u8 x.vr, .int .u32 x.vn, .slice A x.ap.length c, .slice B x.re.length d, .int .u8 x.st]⟩, ⟨g2, 33, [.int .u8 o.r, .int .u32 o.n, .int .u32 o.d0, .int .u32 o.d1, .int .u32 o.d2, .int .u32 o.d3, .int .u32 o.d4, .int .u32 o.d5, .int .u32 o.d6, .int .u32 o.d7, .int .u64 o.time, .int .u32 o.who, .int .u8 o.cr, .int .u32 o.cn, .int .u8 o.kind, .int .u8 o.er, .int .u32 o.en, .int .u32 o.tt, .int .u8 o.roles, .int .u8 o.depth, .int .u64 o.cap, .int .u8 o.ar, .int .u32 o.an, .int .u8 o.vr, .int .u32 o.vn, .int .u32 o.item, .int .u32 o.qty, .int .u32 o.price, .slice A0 n0 c0]⟩, ⟨g3, 27, [.int .u8 0, .int .u32 0, .int .u32 0, .int .u32 0, .int .u32 0, .int .u8 0, .int .u32 0, .slice none 0 0, .slice none 0 0, .int .u8 0]⟩], [⟨0, [1, 1, 1, 0, 1, 0, 1, 1, 1, 1, 1, 1, 1], 0⟩, ⟨2, [], 0⟩, ⟨0, [1, 1, 1, 1], 0⟩], [], [], by kernel_rfl, trivial, ?_⟩
                clear hI hT
                intro a w31 hI hT
                refine condG_ ((o.kind : Int) == 7) hT (by kernel_rfl) ?_ ?_
                · intro hb13
                  have hb13d := eq_of_beq hb13
                  refine go_ 5 0 [0, 1] [2, 4, 5, 57, 59] [0, 2] (by kernel_rfl) hI hT ?_
                  rintro g hg
                  obtain rfl := len0 hg
                  clear hg
                  refine ⟨[(2, .pointer (some ⟨g1, 0, none⟩)), (4, .pointer (some ⟨g3, 0, none⟩)), (5, .int .i64 0), (57, .slice B x.re.length d), (59, .int .u32 o.who)], [⟨g1, 27, [.int .u8 x.r, .int .u32 x.n, .int .u32 x.item, .int .u32 x.qty, .int .u32 x.price, .int .u8 x.vr, .int .u32 x.vn, .slice A x.ap.length c, .slice B x.re.length d, .int .u8 x.st]⟩, ⟨g3, 27, [.int .u8 0, .int .u32 0, .int .u32 0, .int .u32 0, .int .u32 0, .int .u8 0, .int .u32 0, .slice none 0 0, .slice none 0 0, .int .u8 0]⟩], [⟨1, [1, 1, 1, 0, 1, 0, 1, 1, 1, 1, 1, 1, 1, 0], 4⟩, ⟨2, [], 0⟩, ⟨0, [1, 1, 1, 1], 0⟩], [.pointer (some ⟨g1, 8, none⟩), .pointer (some ⟨g2, 11, none⟩)], [], by kernel_rfl, trivial, ?_⟩
                  clear hI hT
                  intro a w32 hI hT
                  refine callG_ (some 60) 29 #[.slice B x.re.length d, .int .u32 o.who] hT (by kernel_rfl) (withR_any _ B d x.re o.who _ (hI.fact 1 rfl) (by first | assumption | omega | (dsimp only; omega))) ?_
                  rintro e w33 ⟨A10, c11, rfl, hr, hk⟩
                  refine ⟨_, rfl, ?_⟩
                  have hF1 := hI.got hk hr
                  replace hI := (hI.after hk).add (f := ⟨_, U32s, [.slice A10 ((ins x.re o.who).length) c11], (ins x.re o.who)⟩) hF1
                  clear hT
                  intro a hT
                  refine go_ 10 0 [0, 0, 1] [4, 5] [1] (by kernel_rfl) hI hT ?_
                  rintro g hg
                  obtain rfl := len0 hg
                  clear hg
                  refine ⟨[(4, .pointer (some ⟨g3, 0, none⟩)), (5, .int .i64 0)], [⟨g3, 27, [.int .u8 x.r, .int .u32 x.n, .int .u32 x.item, .int .u32 x.qty, .int .u32 x.price, .int .u8 x.vr, .int .u32 x.vn, .slice A x.ap.length c, .slice A10 ((ins x.re o.who).length) c11, .int .u8 x.st]⟩], [⟨0, [1, 1, 1, 1, 1], 0⟩], [.pointer (some ⟨g1, 8, none⟩), .pointer (some ⟨g1, 0, none⟩), .pointer (some ⟨g3, 0, none⟩)], [], by kernel_rfl, trivial, ?_⟩
                  clear hI hT
                  intro a w34 hI hT
                  refine ret_ [0] (rs := [.cell 4 27, .tmp 5]) (vs := [.agg #[.int .u8 x.r, .int .u32 x.n, .int .u32 x.item, .int .u32 x.qty, .int .u32 x.price, .int .u8 x.vr, .int .u32 x.vn, .slice A x.ap.length c, .slice A10 ((ins x.re o.who).length) c11, .int .u8 x.st], .int .i64 0]) (l := [.pointer (some ⟨g3, 0, none⟩)]) hI hT (by kernel_rfl) (by kernel_rfl) (by kernel_rfl) (by kernel_rfl) ?_
                  have hact : actM x o = (({ x with re := (ins x.re o.who) } : LineM), 0) := by first | (exfalso; omega) | exact act_none (by omega) (by omega) (by omega) (by omega) | exact act_stale1 (by omega) (by omega) (by assumption) | exact act_stale2 (by omega) (by omega) (by assumption) (by assumption) | exact act_s4 (by assumption) (by assumption) | exact act_s5 (by assumption) (by assumption) | exact act_s6 (by assumption) (by assumption) (by assumption) | exact act_s7 (by assumption) (by assumption) (by assumption)
                  rw [hact]
                  exact ⟨[.int .u8 x.r, .int .u32 x.n, .int .u32 x.item, .int .u32 x.qty, .int .u32 x.price, .int .u8 x.vr, .int .u32 x.vn, .slice A x.ap.length c, .slice A10 ((ins x.re o.who).length) c11, .int .u8 x.st], rfl, LineR.ends (L := gs [⟨g3, 27, [.int .u8 x.r, .int .u32 x.n, .int .u32 x.item, .int .u32 x.qty, .int .u32 x.price, .int .u8 x.vr, .int .u32 x.vn, .slice A x.ap.length c, .slice A10 ((ins x.re o.who).length) c11, .int .u8 x.st]⟩]) ⟨A, c, A10, c11, rfl, (hI.fact 1 rfl), (hI.fact 0 rfl)⟩, hI.keep.below⟩
                · intro hb13
                  have hb13d := ne_of_beq_false' hb13
                  refine go_ 8 0 [0, 2] [4, 5] [2] (by kernel_rfl) hI hT ?_
                  rintro g hg
                  obtain rfl := len0 hg
                  clear hg
                  refine ⟨[(4, .pointer (some ⟨g3, 0, none⟩)), (5, .int .i64 0)], [⟨g3, 27, [.int .u8 x.r, .int .u32 x.n, .int .u32 x.item, .int .u32 x.qty, .int .u32 x.price, .int .u8 x.vr, .int .u32 x.vn, .slice A x.ap.length c, .slice B x.re.length d, .int .u8 x.st]⟩], [⟨0, [1, 1, 1, 1, 1], 0⟩], [.pointer (some ⟨g1, 0, none⟩), .pointer (some ⟨g3, 0, none⟩)], [], by kernel_rfl, trivial, ?_⟩
                  clear hI hT
                  intro a w35 hI hT
                  refine ret_ [0] (rs := [.cell 4 27, .tmp 5]) (vs := [.agg #[.int .u8 x.r, .int .u32 x.n, .int .u32 x.item, .int .u32 x.qty, .int .u32 x.price, .int .u8 x.vr, .int .u32 x.vn, .slice A x.ap.length c, .slice B x.re.length d, .int .u8 x.st], .int .i64 0]) (l := [.pointer (some ⟨g3, 0, none⟩)]) hI hT (by kernel_rfl) (by kernel_rfl) (by kernel_rfl) (by kernel_rfl) ?_
                  have hact : actM x o = (x, 0) := by first | (exfalso; omega) | exact act_none (by omega) (by omega) (by omega) (by omega) | exact act_stale1 (by omega) (by omega) (by assumption) | exact act_stale2 (by omega) (by omega) (by assumption) (by assumption) | exact act_s4 (by assumption) (by assumption) | exact act_s5 (by assumption) (by assumption) | exact act_s6 (by assumption) (by assumption) (by assumption) | exact act_s7 (by assumption) (by assumption) (by assumption)
                  rw [hact]
                  exact ⟨[.int .u8 x.r, .int .u32 x.n, .int .u32 x.item, .int .u32 x.qty, .int .u32 x.price, .int .u8 x.vr, .int .u32 x.vn, .slice A x.ap.length c, .slice B x.re.length d, .int .u8 x.st], rfl, LineR.ends (L := gs [⟨g3, 27, [.int .u8 x.r, .int .u32 x.n, .int .u32 x.item, .int .u32 x.qty, .int .u32 x.price, .int .u8 x.vr, .int .u32 x.vn, .slice A x.ap.length c, .slice B x.re.length d, .int .u8 x.st]⟩]) ⟨A, c, B, d, rfl, (hI.fact 0 rfl), (hI.fact 1 rfl)⟩, hI.keep.below⟩

noncomputable def b16 : Code := match Try.f16.body with | some c => c | none => .skip
set_option maxRecDepth 100000 in
set_option maxHeartbeats 1000000 in
theorem refAdd_any (D : Nat → Prop) (o : OpM) (A0 : Option Addr) (n0 c0 : Nat) (w : World) :
    Calls Try.prog 16 #[.agg (opC o (.slice A0 n0 c0))] w fun e w' => ∃ cs', e = .returned (.tuple #[.agg cs'.toArray, .int .i64 (addM o).2]) ∧ LineR.at_ w' (dom D w.heap.size [] w') cs' (addM o).1 ∧ Below w.heap.size w w' := by
  refine enter_ (c := b16) 19 Try.func16 (by kernel_rfl) Try.ntmps16 (Nat.le_of_ble_eq_true (by kernel_rfl)) ?_
  intro a hT
  have hI := Inv.init (D := D) (w := w) _ (AllF.nil)
  refine go_ 13 2 [0] [1, 2, 3, 6] [0, 1] (by kernel_rfl) hI hT ?_
  intro g hg
  obtain ⟨g1, g2, rfl⟩ := len2 hg
  clear hg
  refine ⟨[(1, .pointer (some ⟨g1, 0, none⟩)), (2, .pointer (some ⟨g2, 0, none⟩)), (3, .int .i64 0), (6, .bool ((o.kind : Int) != 3))], [⟨g1, 33, [.int .u8 o.r, .int .u32 o.n, .int .u32 o.d0, .int .u32 o.d1, .int .u32 o.d2, .int .u32 o.d3, .int .u32 o.d4, .int .u32 o.d5, .int .u32 o.d6, .int .u32 o.d7, .int .u64 o.time, .int .u32 o.who, .int .u8 o.cr, .int .u32 o.cn, .int .u8 o.kind, .int .u8 o.er, .int .u32 o.en, .int .u32 o.tt, .int .u8 o.roles, .int .u8 o.depth, .int .u64 o.cap, .int .u8 o.ar, .int .u32 o.an, .int .u8 o.vr, .int .u32 o.vn, .int .u32 o.item, .int .u32 o.qty, .int .u32 o.price, .slice A0 n0 c0]⟩, ⟨g2, 27, [.int .u8 0, .int .u32 0, .int .u32 0, .int .u32 0, .int .u32 0, .int .u8 0, .int .u32 0, .slice none 0 0, .slice none 0 0, .int .u8 0]⟩], [⟨0, [1, 0, 1], 0⟩, ⟨0, [1, 1], 0⟩], [.pointer (some ⟨g1, 14, none⟩)], [], by kernel_rfl, trivial, ?_⟩
  clear hI hT
  intro a w1 hI hT
  refine condG_ ((o.kind : Int) != 3) hT (by kernel_rfl) ?_ ?_
  · intro hb1
    have hb1d := ne_of_bne_true hb1
    refine go_ 6 0 [1] [1, 2, 3] [0, 1] (by kernel_rfl) hI hT ?_
    rintro g hg
    obtain rfl := len0 hg
    clear hg
    refine ⟨[(1, .pointer (some ⟨g1, 0, none⟩)), (2, .pointer (some ⟨g2, 0, none⟩)), (3, .int .i64 2)], [⟨g1, 33, [.int .u8 o.r, .int .u32 o.n, .int .u32 o.d0, .int .u32 o.d1, .int .u32 o.d2, .int .u32 o.d3, .int .u32 o.d4, .int .u32 o.d5, .int .u32 o.d6, .int .u32 o.d7, .int .u64 o.time, .int .u32 o.who, .int .u8 o.cr, .int .u32 o.cn, .int .u8 o.kind, .int .u8 o.er, .int .u32 o.en, .int .u32 o.tt, .int .u8 o.roles, .int .u8 o.depth, .int .u64 o.cap, .int .u8 o.ar, .int .u32 o.an, .int .u8 o.vr, .int .u32 o.vn, .int .u32 o.item, .int .u32 o.qty, .int .u32 o.price, .slice A0 n0 c0]⟩, ⟨g2, 27, [.int .u8 0, .int .u32 0, .int .u32 0, .int .u32 0, .int .u32 0, .int .u8 0, .int .u32 0, .slice none 0 0, .slice none 0 0, .int .u8 0]⟩], [⟨0, [1, 0, 1, 0, 1], 0⟩, ⟨0, [1, 1], 0⟩], [.pointer (some ⟨g2, 0, none⟩)], [], by kernel_rfl, trivial, ?_⟩
    clear hI hT
    intro a w2 hI hT
    refine ret_ [1] (rs := [.cell 2 27, .tmp 3]) (vs := [.agg #[.int .u8 0, .int .u32 0, .int .u32 0, .int .u32 0, .int .u32 0, .int .u8 0, .int .u32 0, .slice none 0 0, .slice none 0 0, .int .u8 0], .int .i64 2]) (l := [.pointer (some ⟨g2, 0, none⟩)]) hI hT (by kernel_rfl) (by kernel_rfl) (by kernel_rfl) (by kernel_rfl) ?_
    have hadd : addM o = ((⟨0, 0, 0, 0, 0, 0, 0, [], [], 0⟩ : LineM), 2) := by first | exact if_pos (by omega) | exact if_neg (by omega)
    rw [hadd]
    exact ⟨[.int .u8 0, .int .u32 0, .int .u32 0, .int .u32 0, .int .u32 0, .int .u8 0, .int .u32 0, .slice none 0 0, .slice none 0 0, .int .u8 0], rfl, LineR.ends (L := gs [⟨g1, 33, [.int .u8 o.r, .int .u32 o.n, .int .u32 o.d0, .int .u32 o.d1, .int .u32 o.d2, .int .u32 o.d3, .int .u32 o.d4, .int .u32 o.d5, .int .u32 o.d6, .int .u32 o.d7, .int .u64 o.time, .int .u32 o.who, .int .u8 o.cr, .int .u32 o.cn, .int .u8 o.kind, .int .u8 o.er, .int .u32 o.en, .int .u32 o.tt, .int .u8 o.roles, .int .u8 o.depth, .int .u64 o.cap, .int .u8 o.ar, .int .u32 o.an, .int .u8 o.vr, .int .u32 o.vn, .int .u32 o.item, .int .u32 o.qty, .int .u32 o.price, .slice A0 n0 c0]⟩, ⟨g2, 27, [.int .u8 0, .int .u32 0, .int .u32 0, .int .u32 0, .int .u32 0, .int .u8 0, .int .u32 0, .slice none 0 0, .slice none 0 0, .int .u8 0]⟩]) ⟨none, 0, none, 0, rfl, Rp.slice_nil, Rp.slice_nil⟩, hI.keep.below⟩
  · intro hb1
    have hb1d := eq_of_bne_false hb1
    refine go_ 17 0 [0, 0, 0, 0, 0, 1] [2, 3] [1] (by kernel_rfl) hI hT ?_
    rintro g hg
    obtain rfl := len0 hg
    clear hg
    refine ⟨[(2, .pointer (some ⟨g2, 0, none⟩)), (3, .int .i64 0)], [⟨g2, 27, [.int .u8 o.r, .int .u32 o.n, .int .u32 o.item, .int .u32 o.qty, .int .u32 o.price, .int .u8 o.r, .int .u32 o.n, .slice none 0 0, .slice none 0 0, .int .u8 0]⟩], [⟨0, [1, 1, 1], 0⟩], [.pointer (some ⟨g1, 0, none⟩), .pointer (some ⟨g1, 25, none⟩), .pointer (some ⟨g1, 26, none⟩), .pointer (some ⟨g1, 27, none⟩), .pointer (some ⟨g1, 0, none⟩), .pointer (some ⟨g2, 0, none⟩)], [], by kernel_rfl, trivial, ?_⟩
    clear hI hT
    intro a w3 hI hT
    refine ret_ [0] (rs := [.cell 2 27, .tmp 3]) (vs := [.agg #[.int .u8 o.r, .int .u32 o.n, .int .u32 o.item, .int .u32 o.qty, .int .u32 o.price, .int .u8 o.r, .int .u32 o.n, .slice none 0 0, .slice none 0 0, .int .u8 0], .int .i64 0]) (l := [.pointer (some ⟨g2, 0, none⟩)]) hI hT (by kernel_rfl) (by kernel_rfl) (by kernel_rfl) (by kernel_rfl) ?_
    have hadd : addM o = (({ o with vr := o.r, vn := o.n, ap := [], re := [], st := 0 } : LineM), 0) := by first | exact if_pos (by omega) | exact if_neg (by omega)
    rw [hadd]
    exact ⟨[.int .u8 o.r, .int .u32 o.n, .int .u32 o.item, .int .u32 o.qty, .int .u32 o.price, .int .u8 o.r, .int .u32 o.n, .slice none 0 0, .slice none 0 0, .int .u8 0], rfl, LineR.ends (L := gs [⟨g2, 27, [.int .u8 o.r, .int .u32 o.n, .int .u32 o.item, .int .u32 o.qty, .int .u32 o.price, .int .u8 o.r, .int .u32 o.n, .slice none 0 0, .slice none 0 0, .int .u8 0]⟩]) ⟨none, 0, none, 0, rfl, Rp.slice_nil, Rp.slice_nil⟩, hI.keep.below⟩

noncomputable def b19 : Code := match Try.f19.body with | some c => c | none => .skip
set_option maxRecDepth 100000 in
set_option maxHeartbeats 1000000 in
theorem refMay_any (D : Nat → Prop) (cs : List Value) (x : LineM) (vr vn who : Int) (w : World) (hx : LineR.at_ w D cs x) (ha : x.ap.length ≤ 1000) (hb : x.re.length ≤ 1000) :
    Calls Try.prog 19 #[.agg cs.toArray, .agg #[.int .u8 vr, .int .u32 vn], .int .u32 who] w fun e w' => e = .returned (.bool (mayM x vr vn who)) ∧ Below w.heap.size w w' := by
  obtain ⟨A, c, B, d, rfl, h1, h2⟩ := hx
  refine enter_ (c := b19) 37 Try.func19 (by kernel_rfl) Try.ntmps19 (Nat.le_of_ble_eq_true (by kernel_rfl)) ?_
  intro a hT
  have hI := Inv.init (D := D) (w := w) _ (AllF.cons (f := ⟨_, U32s, [.slice A x.ap.length c], x.ap⟩) h1 (AllF.cons (f := ⟨_, U32s, [.slice B x.re.length d], x.re⟩) h2 (AllF.nil)))
  refine go_ 13 2 [0] [2, 3, 4, 6, 11] [0, 1] (by kernel_rfl) hI hT ?_
  intro g hg
  obtain ⟨g1, g2, rfl⟩ := len2 hg
  clear hg
  refine ⟨[(2, .int .u32 who), (3, .pointer (some ⟨g1, 0, none⟩)), (4, .pointer (some ⟨g2, 0, none⟩)), (6, .bool false), (11, .bool ((x.st : Int) != 0))], [⟨g1, 27, [.int .u8 x.r, .int .u32 x.n, .int .u32 x.item, .int .u32 x.qty, .int .u32 x.price, .int .u8 x.vr, .int .u32 x.vn, .slice A x.ap.length c, .slice B x.re.length d, .int .u8 x.st]⟩, ⟨g2, 24, [.int .u8 vr, .int .u32 vn]⟩], [⟨1, [1, 0, 0], 4⟩, ⟨0, [1, 0, 1], 0⟩, ⟨0, [1, 1], 0⟩], [.pointer (some ⟨g1, 9, none⟩)], [], by kernel_rfl, trivial, ?_⟩
  clear hI hT
  intro a w1 hI hT
  refine bcase ((x.st : Int) != 0) ?_ ?_
  · intro hb1
    replace hT := hT.rebool (b := (x.st : Int) != 0) 11 true (by kernel_rfl) hb1
    have hb1d := ne_of_bne_true hb1
    refine go_ 17 0 [] [2, 3, 6] [0] (by kernel_rfl) hI hT ?_
    rintro g hg
    obtain rfl := len0 hg
    clear hg
    refine ⟨[(2, .int .u32 who), (3, .pointer (some ⟨g1, 0, none⟩)), (6, .bool false)], [⟨g1, 27, [.int .u8 x.r, .int .u32 x.n, .int .u32 x.item, .int .u32 x.qty, .int .u32 x.price, .int .u8 x.vr, .int .u32 x.vn, .slice A x.ap.length c, .slice B x.re.length d, .int .u8 x.st]⟩], [⟨0, [1, 0, 1, 0, 1], 0⟩, ⟨0, [1, 1], 0⟩], [], [], by kernel_rfl, trivial, ?_⟩
    clear hI hT
    intro a w2 hI hT
    refine ret_ [] (rs := [.tmp 6]) (vs := [.bool false]) (l := []) hI hT (by kernel_rfl) (by kernel_rfl) (by kernel_rfl) (by kernel_rfl) ?_
    refine ⟨?_, hI.keep.below⟩
    rw [show mayM x vr vn who = false from by unfold mayM; first | (rw [beq_eq_false_iff_ne.2 (by assumption)]; rfl) | (rw [Bool.and_assoc] ; simp_all; done) | (cases hre : x.re with | nil => simp [hre] at * | cons a l => simp)]
    rfl
  · intro hb1
    replace hT := hT.rebool (b := (x.st : Int) != 0) 11 false (by kernel_rfl) hb1
    have hb1d := eq_of_bne_false hb1
    refine go_ 6 0 [0, 1] [2, 3, 6, 17] [0] (by kernel_rfl) hI hT ?_
    rintro g hg
    obtain rfl := len0 hg
    clear hg
    refine ⟨[(2, .int .u32 who), (3, .pointer (some ⟨g1, 0, none⟩)), (6, .bool false), (17, .bool (!((x.vr : Int) == vr && ((x.vn : Int) == vn && true))))], [⟨g1, 27, [.int .u8 x.r, .int .u32 x.n, .int .u32 x.item, .int .u32 x.qty, .int .u32 x.price, .int .u8 x.vr, .int .u32 x.vn, .slice A x.ap.length c, .slice B x.re.length d, .int .u8 x.st]⟩], [⟨1, [1, 0, 0], 10⟩, ⟨0, [1, 0, 1], 0⟩, ⟨0, [1, 1], 0⟩], [.pointer (some ⟨g1, 5, none⟩), .pointer (some ⟨g2, 0, none⟩)], [], by kernel_rfl, trivial, ?_⟩
    clear hI hT
    intro a w3 hI hT
    refine bcase ((x.vr : Int) == vr && ((x.vn : Int) == vn && true)) ?_ ?_
    · intro hb2
      replace hT := hT.rebool (b := !((x.vr : Int) == vr && ((x.vn : Int) == vn && true))) 17 false (by kernel_rfl) (notT hb2)
      refine go_ 6 0 [0] [2, 3, 6, 22] [0] (by kernel_rfl) hI hT ?_
      rintro g hg
      obtain rfl := len0 hg
      clear hg
      refine ⟨[(2, .int .u32 who), (3, .pointer (some ⟨g1, 0, none⟩)), (6, .bool false), (22, .bool (decide (((x.re.length : Nat) : Int) > 0)))], [⟨g1, 27, [.int .u8 x.r, .int .u32 x.n, .int .u32 x.item, .int .u32 x.qty, .int .u32 x.price, .int .u8 x.vr, .int .u32 x.vn, .slice A x.ap.length c, .slice B x.re.length d, .int .u8 x.st]⟩], [⟨0, [1, 0, 1], 0⟩, ⟨0, [1, 1], 0⟩], [.pointer (some ⟨g1, 8, none⟩)], [], by kernel_rfl, trivial, ?_⟩
      clear hI hT
      intro a w4 hI hT
      refine condG_ (decide (((x.re.length : Nat) : Int) > 0)) hT (by kernel_rfl) ?_ ?_
      · intro hb3
        have hb3d := of_decide_eq_true hb3
        refine go_ 4 0 [] [2, 3, 6] [0] (by kernel_rfl) hI hT ?_
        rintro g hg
        obtain rfl := len0 hg
        clear hg
        refine ⟨[(2, .int .u32 who), (3, .pointer (some ⟨g1, 0, none⟩)), (6, .bool false)], [⟨g1, 27, [.int .u8 x.r, .int .u32 x.n, .int .u32 x.item, .int .u32 x.qty, .int .u32 x.price, .int .u8 x.vr, .int .u32 x.vn, .slice A x.ap.length c, .slice B x.re.length d, .int .u8 x.st]⟩], [⟨0, [1, 0, 1, 0, 1], 0⟩, ⟨0, [1, 1], 0⟩], [], [], by kernel_rfl, trivial, ?_⟩
        clear hI hT
        intro a w5 hI hT
        refine ret_ [] (rs := [.tmp 6]) (vs := [.bool false]) (l := []) hI hT (by kernel_rfl) (by kernel_rfl) (by kernel_rfl) (by kernel_rfl) ?_
        refine ⟨?_, hI.keep.below⟩
        rw [show mayM x vr vn who = false from by unfold mayM; first | (rw [beq_eq_false_iff_ne.2 (by assumption)]; rfl) | (rw [Bool.and_assoc] ; simp_all; done) | (cases hre : x.re with | nil => simp [hre] at * | cons a l => simp)]
        rfl
      · intro hb3
        have hb3d := of_decide_eq_false hb3
        refine go_ 7 0 [] [2, 3, 6, 7] [0] (by kernel_rfl) hI hT ?_
        rintro g hg
        obtain rfl := len0 hg
        clear hg
        refine ⟨[(2, .int .u32 who), (3, .pointer (some ⟨g1, 0, none⟩)), (6, .bool false), (7, .int .i64 0)], [⟨g1, 27, [.int .u8 x.r, .int .u32 x.n, .int .u32 x.item, .int .u32 x.qty, .int .u32 x.price, .int .u8 x.vr, .int .u32 x.vn, .slice A x.ap.length c, .slice B x.re.length d, .int .u8 x.st]⟩], [⟨0, [1, 1, 0, 1, 0], 0⟩, ⟨2, [], 0⟩, ⟨0, [1, 1, 1], 0⟩], [], [], by kernel_rfl, trivial, ?_⟩
        clear hI hT
        intro a w6 hI hT
        refine loopG_ (fun (k : Nat) a w' => Inv D w [] [⟨g1, 27, [.int .u8 x.r, .int .u32 x.n, .int .u32 x.item, .int .u32 x.qty, .int .u32 x.price, .int .u8 x.vr, .int .u32 x.vn, .slice A x.ap.length c, .slice B x.re.length d, .int .u8 x.st]⟩] ⟨[], [⟨_, U32s, [.slice A x.ap.length c], x.ap⟩, ⟨_, U32s, [.slice B x.re.length d], x.re⟩]⟩ w' ∧ Knows 37 [(2, .int .u32 who), (3, .pointer (some ⟨g1, 0, none⟩)), (6, .bool false), (7, .int .i64 ↑k)] a ∧ k ≤ x.ap.length ∧ anyNe x.ap k who = false) (fun (k : Nat) => x.ap.length - k) (by kernel_rfl) 0 ⟨hI, lessG_ _ hT (by kernel_rfl), Nat.zero_le _, rfl⟩ ?_
        clear hI hT
        rintro k a w7 ⟨hI, hT, hk0, hne⟩
        refine go_ 9 0 [0] [2, 3, 6, 7, 27] [0] (by kernel_rfl) hI hT ?_
        rintro g hg
        obtain rfl := len0 hg
        clear hg
        refine ⟨[(2, .int .u32 who), (3, .pointer (some ⟨g1, 0, none⟩)), (6, .bool false), (7, .int .i64 ↑k), (27, .bool (decide ((↑k : Int) < (x.ap.length : Nat))))], [⟨g1, 27, [.int .u8 x.r, .int .u32 x.n, .int .u32 x.item, .int .u32 x.qty, .int .u32 x.price, .int .u8 x.vr, .int .u32 x.vn, .slice A x.ap.length c, .slice B x.re.length d, .int .u8 x.st]⟩], [⟨0, [1, 1, 0, 1, 0, 0, 0, 1], 0⟩, ⟨0, [1, 1, 0, 1, 0, 0, 1], 0⟩], [.pointer (some ⟨g1, 7, none⟩)], [], by kernel_rfl, trivial, ?_⟩
        clear hI hT
        intro a w8 hI hT
        refine condG_ (decide ((↑k : Int) < (x.ap.length : Nat))) hT (by kernel_rfl) ?_ ?_
        · intro hb4
          have hb4d := of_decide_eq_true hb4
          obtain ⟨ad, rfl, hq⟩ := u32_elem (hI.fact 0 rfl) (k := k) (by omega)
          replace hI := hI.rng hq
          refine go_ 13 0 [0, 1000] [2, 3, 6, 7, 36] [0] (by kernel_rfl) hI hT ?_
          rintro g hg
          obtain rfl := len0 hg
          clear hg
          refine ⟨[(2, .int .u32 who), (3, .pointer (some ⟨g1, 0, none⟩)), (6, .bool false), (7, .int .i64 ↑k), (36, .bool ((x.ap.getD k 0 : Int) != who))], [⟨g1, 27, [.int .u8 x.r, .int .u32 x.n, .int .u32 x.item, .int .u32 x.qty, .int .u32 x.price, .int .u8 x.vr, .int .u32 x.vn, .slice (some ad) x.ap.length c, .slice B x.re.length d, .int .u8 x.st]⟩], [⟨0, [1, 1, 0, 1, 0, 0, 1, 0, 0, 1], 0⟩, ⟨2, [], 1⟩, ⟨0, [1, 1, 0, 1, 0, 0, 1, 1], 0⟩], [.pointer (some ⟨g1, 7, none⟩), .pointer (some (ad.add (k * 1)))], [(0 : Int) ≤ ↑k, ↑k < (x.ap.length : Int)], by kernel_rfl, ⟨by omega, by omega, trivial⟩, ?_⟩
          clear hI hT
          intro a w9 hI hT
          refine condG_ ((x.ap.getD k 0 : Int) != who) hT (by kernel_rfl) ?_ ?_
          · intro hb5
            have hb5d := ne_of_bne_true hb5
            refine go_ 4 0 [] [2, 3, 6, 7] [0] (by kernel_rfl) hI hT ?_
            rintro g hg
            obtain rfl := len0 hg
            clear hg
            refine ⟨[(2, .int .u32 who), (3, .pointer (some ⟨g1, 0, none⟩)), (6, .bool true), (7, .int .i64 ↑k)], [⟨g1, 27, [.int .u8 x.r, .int .u32 x.n, .int .u32 x.item, .int .u32 x.qty, .int .u32 x.price, .int .u8 x.vr, .int .u32 x.vn, .slice (some ad) x.ap.length c, .slice B x.re.length d, .int .u8 x.st]⟩], [⟨0, [1, 1, 0, 1, 0, 0, 1, 0, 0, 1, 0, 1], 0⟩, ⟨2, [], 1⟩, ⟨0, [1, 1, 0, 1, 0, 0, 1, 1], 0⟩], [], [], by kernel_rfl, trivial, ?_⟩
            clear hI hT
            intro a w10 hI hT
            refine retAt_ (by kernel_rfl) (by kernel_rfl) ?_
            refine loopRet_ (by kernel_rfl) ?_
            refine bodyRet_ [] (rs := [.tmp 6]) (vs := [.bool true]) (l := []) hI hT (by kernel_rfl) (by kernel_rfl) ?_
            refine ⟨?_, hI.keep.below⟩
            rw [may_parts (by assumption) (by assumption) (by omega), other_yes (k := k) (by omega) (by assumption)]
            rfl
          · intro hb5
            have hb5d := eq_of_bne_false hb5
            refine go_ 7 0 [] [2, 3, 6, 7] [0] (by kernel_rfl) hI hT ?_
            rintro g hg
            obtain rfl := len0 hg
            clear hg
            refine ⟨[(2, .int .u32 who), (3, .pointer (some ⟨g1, 0, none⟩)), (6, .bool false), (7, .int .i64 (IntKind.i64.wrap (↑k + 1)))], [⟨g1, 27, [.int .u8 x.r, .int .u32 x.n, .int .u32 x.item, .int .u32 x.qty, .int .u32 x.price, .int .u8 x.vr, .int .u32 x.vn, .slice (some ad) x.ap.length c, .slice B x.re.length d, .int .u8 x.st]⟩], [], [], [], by kernel_rfl, trivial, ?_⟩
            clear hI hT
            intro a w11 hI hT
            replace hT := hT.re (u := .int .i64 (IntKind.i64.wrap (↑k + 1))) 7 (.int .i64 (↑(k + 1))) (by kernel_rfl) (i64_eq (by omega) (by omega) (by omega))
            exact round_ (k + 1) ⟨(hI.dropFE 0 1), lessG_ _ hT (by kernel_rfl), by omega, by rw [anyNe_succ (by omega), hne]; simpa using hb5⟩ (by first | omega | (dsimp only; omega))
        · intro hb4
          have hb4d := of_decide_eq_false hb4
          refine exit_ (id := 0) (k'' := [⟨0, [1, 1, 1], 0⟩]) (by kernel_rfl) (by kernel_rfl) (by kernel_rfl) ?_
          refine go_ 4 0 [] [6] [] (by kernel_rfl) hI hT ?_
          rintro g hg
          obtain rfl := len0 hg
          clear hg
          refine ⟨[(6, .bool false)], [], [⟨0, [1, 1, 1, 1], 0⟩], [], [], by kernel_rfl, trivial, ?_⟩
          clear hI hT
          intro a w12 hI hT
          refine ret_ [] (rs := [.tmp 6]) (vs := [.bool false]) (l := []) hI hT (by kernel_rfl) (by kernel_rfl) (by kernel_rfl) (by kernel_rfl) ?_
          refine ⟨?_, hI.keep.below⟩
          rw [may_parts (by assumption) (by assumption) (by omega), other_no (k := k) (by omega) hne]
          rfl
    · intro hb2
      replace hT := hT.rebool (b := !((x.vr : Int) == vr && ((x.vn : Int) == vn && true))) 17 true (by kernel_rfl) (notF hb2)
      refine go_ 11 0 [] [2, 3, 6] [0] (by kernel_rfl) hI hT ?_
      rintro g hg
      obtain rfl := len0 hg
      clear hg
      refine ⟨[(2, .int .u32 who), (3, .pointer (some ⟨g1, 0, none⟩)), (6, .bool false)], [⟨g1, 27, [.int .u8 x.r, .int .u32 x.n, .int .u32 x.item, .int .u32 x.qty, .int .u32 x.price, .int .u8 x.vr, .int .u32 x.vn, .slice A x.ap.length c, .slice B x.re.length d, .int .u8 x.st]⟩], [⟨0, [1, 0, 1, 0, 1], 0⟩, ⟨0, [1, 1], 0⟩], [], [], by kernel_rfl, trivial, ?_⟩
      clear hI hT
      intro a w13 hI hT
      refine ret_ [] (rs := [.tmp 6]) (vs := [.bool false]) (l := []) hI hT (by kernel_rfl) (by kernel_rfl) (by kernel_rfl) (by kernel_rfl) ?_
      refine ⟨?_, hI.keep.below⟩
      rw [show mayM x vr vn who = false from by unfold mayM; first | (rw [beq_eq_false_iff_ne.2 (by assumption)]; rfl) | (rw [Bool.and_assoc] ; simp_all; done) | (cases hre : x.re with | nil => simp [hre] at * | cons a l => simp)]
      rfl

noncomputable def b18 : Code := match Try.f18.body with | some c => c | none => .skip
set_option maxRecDepth 100000 in
set_option maxHeartbeats 1000000 in
theorem refClaim_any (D : Nat → Prop) (cs : List Value) (x : LineM) (vr vn who : Int) (w : World) (hx : LineR.at_ w D cs x) (ha : x.ap.length ≤ 1000) (hb : x.re.length ≤ 1000) :
    Calls Try.prog 18 #[.agg cs.toArray, .agg #[.int .u8 vr, .int .u32 vn], .int .u32 who] w fun e w' => ∃ cs', e = .returned (.tuple #[.agg cs'.toArray, .int .i64 (claimM x vr vn who).2]) ∧ LineR.at_ w' (dom D w.heap.size [] w') cs' (claimM x vr vn who).1 ∧ Below w.heap.size w w' := by
  obtain ⟨A, c, B, d, rfl, h1, h2⟩ := hx
  refine enter_ (c := b18) 16 Try.func18 (by kernel_rfl) Try.ntmps18 (Nat.le_of_ble_eq_true (by kernel_rfl)) ?_
  intro a hT
  have hI := Inv.init (D := D) (w := w) _ (AllF.cons (f := ⟨_, U32s, [.slice A x.ap.length c], x.ap⟩) h1 (AllF.cons (f := ⟨_, U32s, [.slice B x.re.length d], x.re⟩) h2 (AllF.nil)))
  refine go_ 13 3 [0, 1] [3, 6, 7, 8, 9, 10] [0, 2] (by kernel_rfl) hI hT ?_
  intro g hg
  obtain ⟨g1, g2, g3, rfl⟩ := len3 hg
  clear hg
  refine ⟨[(3, .pointer (some ⟨g1, 0, none⟩)), (6, .pointer (some ⟨g3, 0, none⟩)), (7, .int .i64 0), (8, .agg #[.int .u8 x.r, .int .u32 x.n, .int .u32 x.item, .int .u32 x.qty, .int .u32 x.price, .int .u8 x.vr, .int .u32 x.vn, .slice A x.ap.length c, .slice B x.re.length d, .int .u8 x.st]), (9, .agg #[.int .u8 vr, .int .u32 vn]), (10, .int .u32 who)], [⟨g1, 27, [.int .u8 x.r, .int .u32 x.n, .int .u32 x.item, .int .u32 x.qty, .int .u32 x.price, .int .u8 x.vr, .int .u32 x.vn, .slice A x.ap.length c, .slice B x.re.length d, .int .u8 x.st]⟩, ⟨g3, 27, [.int .u8 0, .int .u32 0, .int .u32 0, .int .u32 0, .int .u32 0, .int .u8 0, .int .u32 0, .slice none 0 0, .slice none 0 0, .int .u8 0]⟩], [⟨1, [1, 0, 0], 3⟩, ⟨0, [1, 0, 1], 0⟩, ⟨0, [1, 1], 0⟩], [.pointer (some ⟨g1, 0, none⟩), .pointer (some ⟨g2, 0, none⟩)], [], by kernel_rfl, trivial, ?_⟩
  clear hI hT
  intro a w1 hI hT
  refine callG_ (some 11) 19 #[.agg #[.int .u8 x.r, .int .u32 x.n, .int .u32 x.item, .int .u32 x.qty, .int .u32 x.price, .int .u8 x.vr, .int .u32 x.vn, .slice A x.ap.length c, .slice B x.re.length d, .int .u8 x.st], .agg #[.int .u8 vr, .int .u32 vn], .int .u32 who] hT (by kernel_rfl) (refMay_any _ [.int .u8 x.r, .int .u32 x.n, .int .u32 x.item, .int .u32 x.qty, .int .u32 x.price, .int .u8 x.vr, .int .u32 x.vn, .slice A x.ap.length c, .slice B x.re.length d, .int .u8 x.st] x vr vn who _ ⟨A, c, B, d, rfl, (hI.fact 0 rfl), (hI.fact 1 rfl)⟩ (by first | assumption | omega | (dsimp only; omega)) (by first | assumption | omega | (dsimp only; omega))) ?_
  rintro e w2 ⟨rfl, hb⟩
  have hk := Keep.of_below (L := []) hb
  refine ⟨_, rfl, ?_⟩
  replace hI := hI.after hk
  clear hT
  intro a hT
  refine go_ 2 0 [] [3, 6, 7, 12] [0, 1] (by kernel_rfl) hI hT ?_
  rintro g hg
  obtain rfl := len0 hg
  clear hg
  refine ⟨[(3, .pointer (some ⟨g1, 0, none⟩)), (6, .pointer (some ⟨g3, 0, none⟩)), (7, .int .i64 0), (12, .bool (!(mayM x vr vn who)))], [⟨g1, 27, [.int .u8 x.r, .int .u32 x.n, .int .u32 x.item, .int .u32 x.qty, .int .u32 x.price, .int .u8 x.vr, .int .u32 x.vn, .slice A x.ap.length c, .slice B x.re.length d, .int .u8 x.st]⟩, ⟨g3, 27, [.int .u8 0, .int .u32 0, .int .u32 0, .int .u32 0, .int .u32 0, .int .u8 0, .int .u32 0, .slice none 0 0, .slice none 0 0, .int .u8 0]⟩], [⟨0, [1, 0, 1], 0⟩, ⟨0, [1, 1], 0⟩], [], [], by kernel_rfl, trivial, ?_⟩
  clear hI hT
  intro a w3 hI hT
  refine bcase (mayM x vr vn who) ?_ ?_
  · intro hb1
    replace hT := hT.rebool (b := !(mayM x vr vn who)) 12 false (by kernel_rfl) (notT hb1)
    refine go_ 13 0 [0, 0, 1] [6, 7] [1] (by kernel_rfl) hI hT ?_
    rintro g hg
    obtain rfl := len0 hg
    clear hg
    refine ⟨[(6, .pointer (some ⟨g3, 0, none⟩)), (7, .int .i64 0)], [⟨g3, 27, [.int .u8 x.r, .int .u32 x.n, .int .u32 x.item, .int .u32 x.qty, .int .u32 x.price, .int .u8 x.vr, .int .u32 x.vn, .slice A x.ap.length c, .slice B x.re.length d, .int .u8 2]⟩], [⟨0, [1, 1, 1, 1], 0⟩], [.pointer (some ⟨g1, 9, none⟩), .pointer (some ⟨g1, 0, none⟩), .pointer (some ⟨g3, 0, none⟩)], [], by kernel_rfl, trivial, ?_⟩
    clear hI hT
    intro a w4 hI hT
    refine ret_ [0] (rs := [.cell 6 27, .tmp 7]) (vs := [.agg #[.int .u8 x.r, .int .u32 x.n, .int .u32 x.item, .int .u32 x.qty, .int .u32 x.price, .int .u8 x.vr, .int .u32 x.vn, .slice A x.ap.length c, .slice B x.re.length d, .int .u8 2], .int .i64 0]) (l := [.pointer (some ⟨g3, 0, none⟩)]) hI hT (by kernel_rfl) (by kernel_rfl) (by kernel_rfl) (by kernel_rfl) ?_
    refine ⟨[.int .u8 x.r, .int .u32 x.n, .int .u32 x.item, .int .u32 x.qty, .int .u32 x.price, .int .u8 x.vr, .int .u32 x.vn, .slice A x.ap.length c, .slice B x.re.length d, .int .u8 2], ?_, ?_, hI.keep.below⟩
    · simp only [claimM, oneOrTuple]; rw [show mayM x vr vn who = _ from by simpa using hb1]
    · simp only [claimM]; rw [show mayM x vr vn who = _ from by simpa using hb1]; exact LineR.ends ⟨A, c, B, d, rfl, (hI.fact 0 rfl), (hI.fact 1 rfl)⟩
  · intro hb1
    replace hT := hT.rebool (b := !(mayM x vr vn who)) 12 true (by kernel_rfl) (notF hb1)
    refine go_ 7 0 [0, 1] [3, 6, 7] [0, 1] (by kernel_rfl) hI hT ?_
    rintro g hg
    obtain rfl := len0 hg
    clear hg
    refine ⟨[(3, .pointer (some ⟨g1, 0, none⟩)), (6, .pointer (some ⟨g3, 0, none⟩)), (7, .int .i64 278)], [⟨g1, 27, [.int .u8 x.r, .int .u32 x.n, .int .u32 x.item, .int .u32 x.qty, .int .u32 x.price, .int .u8 x.vr, .int .u32 x.vn, .slice A x.ap.length c, .slice B x.re.length d, .int .u8 x.st]⟩, ⟨g3, 27, [.int .u8 x.r, .int .u32 x.n, .int .u32 x.item, .int .u32 x.qty, .int .u32 x.price, .int .u8 x.vr, .int .u32 x.vn, .slice A x.ap.length c, .slice B x.re.length d, .int .u8 x.st]⟩], [⟨0, [1, 0, 1, 0, 1], 0⟩, ⟨0, [1, 1], 0⟩], [.pointer (some ⟨g1, 0, none⟩), .pointer (some ⟨g3, 0, none⟩)], [], by kernel_rfl, trivial, ?_⟩
    clear hI hT
    intro a w5 hI hT
    refine ret_ [1] (rs := [.cell 6 27, .tmp 7]) (vs := [.agg #[.int .u8 x.r, .int .u32 x.n, .int .u32 x.item, .int .u32 x.qty, .int .u32 x.price, .int .u8 x.vr, .int .u32 x.vn, .slice A x.ap.length c, .slice B x.re.length d, .int .u8 x.st], .int .i64 278]) (l := [.pointer (some ⟨g3, 0, none⟩)]) hI hT (by kernel_rfl) (by kernel_rfl) (by kernel_rfl) (by kernel_rfl) ?_
    refine ⟨[.int .u8 x.r, .int .u32 x.n, .int .u32 x.item, .int .u32 x.qty, .int .u32 x.price, .int .u8 x.vr, .int .u32 x.vn, .slice A x.ap.length c, .slice B x.re.length d, .int .u8 x.st], ?_, ?_, hI.keep.below⟩
    · simp only [claimM, oneOrTuple]; rw [show mayM x vr vn who = _ from by simpa using hb1]
    · simp only [claimM]; rw [show mayM x vr vn who = _ from by simpa using hb1]; exact LineR.ends ⟨A, c, B, d, rfl, (hI.fact 0 rfl), (hI.fact 1 rfl)⟩

end Go.Proofs.Ytfdgflhbooaomaa
