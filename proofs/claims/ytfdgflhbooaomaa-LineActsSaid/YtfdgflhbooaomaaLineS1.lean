/- walks by the symbolic machine: line.Claim; the law LineClaims -/
import Derived.Test.YtfdgflhbooaomaaLineP
import Derived.Test.YtfdgflhbooaomaaHead
namespace Go.Proofs.Ytfdgflhbooaomaa
open Go.RowKit

noncomputable def b12 : Code := match Try.f12.body with | some c => c | none => .skip
set_option maxRecDepth 100000 in
set_option maxHeartbeats 1000000 in
theorem claim_any (D : Nat → Prop) (cs : List Value) (x : LineM) (vr vn who : Int) (w : World) (hx : LineR.at_ w D cs x) (ha : x.ap.length ≤ 1000) (hb : x.re.length ≤ 1000) :
    Calls Try.prog 12 #[.agg cs.toArray, .agg #[.int .u8 vr, .int .u32 vn], .int .u32 who] w fun e w' => ∃ cs', e = .returned (.tuple #[.agg cs'.toArray, .int .i64 (claimM x vr vn who).2]) ∧ LineR.at_ w' (dom D w.heap.size [] w') cs' (claimM x vr vn who).1 ∧ Below w.heap.size w w' := by
  obtain ⟨A, c, B, d, rfl, h1, h2⟩ := hx
  refine enter_ (c := b12) 18 Try.func12 (by kernel_rfl) Try.ntmps12 (Nat.le_of_ble_eq_true (by kernel_rfl)) ?_
  intro a hT
  have hI := Inv.init (D := D) (w := w) _ (AllF.cons (f := ⟨_, U32s, [.slice A x.ap.length c], x.ap⟩) h1 (AllF.cons (f := ⟨_, U32s, [.slice B x.re.length d], x.re⟩) h2 (AllF.nil)))
  refine go_ 10 3 [0] [2, 3, 4, 6, 7, 8] [0, 1, 2] (by kernel_rfl) hI hT ?_
  intro g hg
  obtain ⟨g1, g2, g3, rfl⟩ := len3 hg
  clear hg
  refine ⟨[(2, .int .u32 who), (3, .pointer (some ⟨g1, 0, none⟩)), (4, .pointer (some ⟨g2, 0, none⟩)), (6, .pointer (some ⟨g3, 0, none⟩)), (7, .int .i64 0), (8, .agg #[.int .u8 x.r, .int .u32 x.n, .int .u32 x.item, .int .u32 x.qty, .int .u32 x.price, .int .u8 x.vr, .int .u32 x.vn, .slice A x.ap.length c, .slice B x.re.length d, .int .u8 x.st])], [⟨g1, 27, [.int .u8 x.r, .int .u32 x.n, .int .u32 x.item, .int .u32 x.qty, .int .u32 x.price, .int .u8 x.vr, .int .u32 x.vn, .slice A x.ap.length c, .slice B x.re.length d, .int .u8 x.st]⟩, ⟨g2, 24, [.int .u8 vr, .int .u32 vn]⟩, ⟨g3, 27, [.int .u8 0, .int .u32 0, .int .u32 0, .int .u32 0, .int .u32 0, .int .u8 0, .int .u32 0, .slice none 0 0, .slice none 0 0, .int .u8 0]⟩], [⟨1, [1, 0], 1⟩, ⟨0, [1, 1], 0⟩], [.pointer (some ⟨g1, 0, none⟩)], [], by kernel_rfl, trivial, ?_⟩
  clear hI hT
  intro a w1 hI hT
  refine callG_ (some 9) 25 #[.agg #[.int .u8 x.r, .int .u32 x.n, .int .u32 x.item, .int .u32 x.qty, .int .u32 x.price, .int .u8 x.vr, .int .u32 x.vn, .slice A x.ap.length c, .slice B x.re.length d, .int .u8 x.st]] hT (by kernel_rfl) (copied_any _ [.int .u8 x.r, .int .u32 x.n, .int .u32 x.item, .int .u32 x.qty, .int .u32 x.price, .int .u8 x.vr, .int .u32 x.vn, .slice A x.ap.length c, .slice B x.re.length d, .int .u8 x.st] x _ ⟨A, c, B, d, rfl, (hI.fact 0 rfl), (hI.fact 1 rfl)⟩ (by first | assumption | omega | (dsimp only; omega)) (by first | assumption | omega | (dsimp only; omega))) ?_
  rintro e w2 ⟨cs', rfl, hr, hb⟩
  have hk := Keep.of_below (L := []) hb
  obtain ⟨A4, c5, A6, c7, rfl, hr8, hr9⟩ := hr
  refine ⟨_, rfl, ?_⟩
  have hF1 := hI.got hk hr8
  have hF2 := hI.got hk hr9
  replace hI := ((hI.after hk).add (f := ⟨_, U32s, [.slice A4 x.ap.length c5], x.ap⟩) hF1).add (f := ⟨_, U32s, [.slice A6 x.re.length c7], x.re⟩) hF2
  clear hT
  intro a hT
  refine go_ 8 0 [0, 0, 1] [3, 6, 7, 10, 11, 12] [0, 2] (by kernel_rfl) hI hT ?_
  rintro g hg
  obtain rfl := len0 hg
  clear hg
  refine ⟨[(3, .pointer (some ⟨g1, 0, none⟩)), (6, .pointer (some ⟨g3, 0, none⟩)), (7, .int .i64 0), (10, .agg #[.int .u8 x.r, .int .u32 x.n, .int .u32 x.item, .int .u32 x.qty, .int .u32 x.price, .int .u8 x.vr, .int .u32 x.vn, .slice A4 x.ap.length c5, .slice A6 x.re.length c7, .int .u8 x.st]), (11, .agg #[.int .u8 vr, .int .u32 vn]), (12, .int .u32 who)], [⟨g1, 27, [.int .u8 x.r, .int .u32 x.n, .int .u32 x.item, .int .u32 x.qty, .int .u32 x.price, .int .u8 x.vr, .int .u32 x.vn, .slice A4 x.ap.length c5, .slice A6 x.re.length c7, .int .u8 x.st]⟩, ⟨g3, 27, [.int .u8 0, .int .u32 0, .int .u32 0, .int .u32 0, .int .u32 0, .int .u8 0, .int .u32 0, .slice none 0 0, .slice none 0 0, .int .u8 0]⟩], [⟨1, [1, 1, 0, 0], 3⟩, ⟨0, [1, 1, 0, 1], 0⟩, ⟨0, [1, 1, 1], 0⟩], [.pointer (some ⟨g1, 0, none⟩), .pointer (some ⟨g1, 0, none⟩), .pointer (some ⟨g2, 0, none⟩)], [], by kernel_rfl, trivial, ?_⟩
  clear hI hT
  intro a w3 hI hT
  refine callG_ (some 13) 11 #[.agg #[.int .u8 x.r, .int .u32 x.n, .int .u32 x.item, .int .u32 x.qty, .int .u32 x.price, .int .u8 x.vr, .int .u32 x.vn, .slice A4 x.ap.length c5, .slice A6 x.re.length c7, .int .u8 x.st], .agg #[.int .u8 vr, .int .u32 vn], .int .u32 who] hT (by kernel_rfl) (may_any _ [.int .u8 x.r, .int .u32 x.n, .int .u32 x.item, .int .u32 x.qty, .int .u32 x.price, .int .u8 x.vr, .int .u32 x.vn, .slice A4 x.ap.length c5, .slice A6 x.re.length c7, .int .u8 x.st] x vr vn who _ ⟨A4, c5, A6, c7, rfl, (hI.fact 1 rfl), (hI.fact 0 rfl)⟩ (by first | assumption | omega | (dsimp only; omega)) (by first | assumption | omega | (dsimp only; omega))) ?_
  rintro e w4 ⟨rfl, hb⟩
  have hk := Keep.of_below (L := []) hb
  refine ⟨_, rfl, ?_⟩
  replace hI := hI.after hk
  clear hT
  intro a hT
  refine go_ 2 0 [] [3, 6, 7, 14] [0, 1] (by kernel_rfl) hI hT ?_
  rintro g hg
  obtain rfl := len0 hg
  clear hg
  refine ⟨[(3, .pointer (some ⟨g1, 0, none⟩)), (6, .pointer (some ⟨g3, 0, none⟩)), (7, .int .i64 0), (14, .bool (!(mayM x vr vn who)))], [⟨g1, 27, [.int .u8 x.r, .int .u32 x.n, .int .u32 x.item, .int .u32 x.qty, .int .u32 x.price, .int .u8 x.vr, .int .u32 x.vn, .slice A4 x.ap.length c5, .slice A6 x.re.length c7, .int .u8 x.st]⟩, ⟨g3, 27, [.int .u8 0, .int .u32 0, .int .u32 0, .int .u32 0, .int .u32 0, .int .u8 0, .int .u32 0, .slice none 0 0, .slice none 0 0, .int .u8 0]⟩], [⟨0, [1, 1, 0, 1], 0⟩, ⟨0, [1, 1, 1], 0⟩], [], [], by kernel_rfl, trivial, ?_⟩
  clear hI hT
  intro a w5 hI hT
  refine bcase (mayM x vr vn who) ?_ ?_
  · intro hb1
    replace hT := hT.rebool (b := !(mayM x vr vn who)) 14 false (by kernel_rfl) (notT hb1)
    refine go_ 13 0 [0, 0, 1] [6, 7] [1] (by kernel_rfl) hI hT ?_
    rintro g hg
    obtain rfl := len0 hg
    clear hg
    refine ⟨[(6, .pointer (some ⟨g3, 0, none⟩)), (7, .int .i64 0)], [⟨g3, 27, [.int .u8 x.r, .int .u32 x.n, .int .u32 x.item, .int .u32 x.qty, .int .u32 x.price, .int .u8 x.vr, .int .u32 x.vn, .slice A4 x.ap.length c5, .slice A6 x.re.length c7, .int .u8 2]⟩], [⟨0, [1, 1, 1, 1, 1], 0⟩], [.pointer (some ⟨g1, 9, none⟩), .pointer (some ⟨g1, 0, none⟩), .pointer (some ⟨g3, 0, none⟩)], [], by kernel_rfl, trivial, ?_⟩
    clear hI hT
    intro a w6 hI hT
    refine ret_ [0] (rs := [.cell 6 27, .tmp 7]) (vs := [.agg #[.int .u8 x.r, .int .u32 x.n, .int .u32 x.item, .int .u32 x.qty, .int .u32 x.price, .int .u8 x.vr, .int .u32 x.vn, .slice A4 x.ap.length c5, .slice A6 x.re.length c7, .int .u8 2], .int .i64 0]) (l := [.pointer (some ⟨g3, 0, none⟩)]) hI hT (by kernel_rfl) (by kernel_rfl) (by kernel_rfl) (by kernel_rfl) ?_
    refine ⟨[.int .u8 x.r, .int .u32 x.n, .int .u32 x.item, .int .u32 x.qty, .int .u32 x.price, .int .u8 x.vr, .int .u32 x.vn, .slice A4 x.ap.length c5, .slice A6 x.re.length c7, .int .u8 2], ?_, ?_, hI.keep.below⟩
    · simp only [claimM, oneOrTuple]; rw [show mayM x vr vn who = _ from by simpa using hb1]
    · simp only [claimM]; rw [show mayM x vr vn who = _ from by simpa using hb1]; exact LineR.ends ⟨A4, c5, A6, c7, rfl, (hI.fact 1 rfl), (hI.fact 0 rfl)⟩
  · intro hb1
    replace hT := hT.rebool (b := !(mayM x vr vn who)) 14 true (by kernel_rfl) (notF hb1)
    refine go_ 7 0 [0, 1] [3, 6, 7] [0, 1] (by kernel_rfl) hI hT ?_
    rintro g hg
    obtain rfl := len0 hg
    clear hg
    refine ⟨[(3, .pointer (some ⟨g1, 0, none⟩)), (6, .pointer (some ⟨g3, 0, none⟩)), (7, .int .i64 278)], [⟨g1, 27, [.int .u8 x.r, .int .u32 x.n, .int .u32 x.item, .int .u32 x.qty, .int .u32 x.price, .int .u8 x.vr, .int .u32 x.vn, .slice A4 x.ap.length c5, .slice A6 x.re.length c7, .int .u8 x.st]⟩, ⟨g3, 27, [.int .u8 x.r, .int .u32 x.n, .int .u32 x.item, .int .u32 x.qty, .int .u32 x.price, .int .u8 x.vr, .int .u32 x.vn, .slice A4 x.ap.length c5, .slice A6 x.re.length c7, .int .u8 x.st]⟩], [⟨0, [1, 1, 0, 1, 0, 1], 0⟩, ⟨0, [1, 1, 1], 0⟩], [.pointer (some ⟨g1, 0, none⟩), .pointer (some ⟨g3, 0, none⟩)], [], by kernel_rfl, trivial, ?_⟩
    clear hI hT
    intro a w7 hI hT
    refine ret_ [1] (rs := [.cell 6 27, .tmp 7]) (vs := [.agg #[.int .u8 x.r, .int .u32 x.n, .int .u32 x.item, .int .u32 x.qty, .int .u32 x.price, .int .u8 x.vr, .int .u32 x.vn, .slice A4 x.ap.length c5, .slice A6 x.re.length c7, .int .u8 x.st], .int .i64 278]) (l := [.pointer (some ⟨g3, 0, none⟩)]) hI hT (by kernel_rfl) (by kernel_rfl) (by kernel_rfl) (by kernel_rfl) ?_
    refine ⟨[.int .u8 x.r, .int .u32 x.n, .int .u32 x.item, .int .u32 x.qty, .int .u32 x.price, .int .u8 x.vr, .int .u32 x.vn, .slice A4 x.ap.length c5, .slice A6 x.re.length c7, .int .u8 x.st], ?_, ?_, hI.keep.below⟩
    · simp only [claimM, oneOrTuple]; rw [show mayM x vr vn who = _ from by simpa using hb1]
    · simp only [claimM]; rw [show mayM x vr vn who = _ from by simpa using hb1]; exact LineR.ends ⟨A4, c5, A6, c7, rfl, (hI.fact 1 rfl), (hI.fact 0 rfl)⟩

noncomputable def b5 : Code := match Try.f5.body with | some c => c | none => .skip
set_option maxRecDepth 100000 in
set_option maxHeartbeats 1000000 in
theorem lineClaims_any (D : Nat → Prop) (cs : List Value) (x : LineM) (p q : Int) (w : World) (hx : LineR.at_ w D cs x) (ha : x.ap.length ≤ 9223372036854775807) (hb : x.re.length ≤ 9223372036854775807) :
    Calls Try.prog 5 #[.agg cs.toArray, .int .u32 p, .int .u32 q] w fun e w' => e = .returned (.bool true) ∧ Below w.heap.size w w' := by
  obtain ⟨A, c, B, d, rfl, h1, h2⟩ := hx
  refine enter_ (c := b5) 123 Try.func5 (by kernel_rfl) Try.ntmps5 (Nat.le_of_ble_eq_true (by kernel_rfl)) ?_
  intro a hT
  have hI := Inv.init (D := D) (w := w) _ (AllF.cons (f := ⟨_, U32s, [.slice A x.ap.length c], x.ap⟩) h1 (AllF.cons (f := ⟨_, U32s, [.slice B x.re.length d], x.re⟩) h2 (AllF.nil)))
  refine go_ 9 1 [0] [1, 2, 3, 6, 14] [0] (by kernel_rfl) hI hT ?_
  intro g hg
  obtain ⟨g1, rfl⟩ := len1 hg
  clear hg
  refine ⟨[(1, .int .u32 p), (2, .int .u32 q), (3, .pointer (some ⟨g1, 0, none⟩)), (6, .bool false), (14, .agg #[.int .u8 x.r, .int .u32 x.n, .int .u32 x.item, .int .u32 x.qty, .int .u32 x.price, .int .u8 x.vr, .int .u32 x.vn, .slice A x.ap.length c, .slice B x.re.length d, .int .u8 x.st])], [⟨g1, 27, [.int .u8 x.r, .int .u32 x.n, .int .u32 x.item, .int .u32 x.qty, .int .u32 x.price, .int .u8 x.vr, .int .u32 x.vn, .slice A x.ap.length c, .slice B x.re.length d, .int .u8 x.st]⟩], [⟨1, [1, 0, 0], 1⟩, ⟨0, [1, 0, 1], 0⟩, ⟨0, [1, 1], 0⟩], [.pointer (some ⟨g1, 0, none⟩)], [], by kernel_rfl, trivial, ?_⟩
  clear hI hT
  intro a w1 hI hT
  refine callG_ (some 15) 7 #[.agg #[.int .u8 x.r, .int .u32 x.n, .int .u32 x.item, .int .u32 x.qty, .int .u32 x.price, .int .u8 x.vr, .int .u32 x.vn, .slice A x.ap.length c, .slice B x.re.length d, .int .u8 x.st]] hT (by kernel_rfl) (great_any _ [.int .u8 x.r, .int .u32 x.n, .int .u32 x.item, .int .u32 x.qty, .int .u32 x.price, .int .u8 x.vr, .int .u32 x.vn, .slice A x.ap.length c, .slice B x.re.length d, .int .u8 x.st] x _ ⟨A, c, B, d, rfl, (hI.fact 0 rfl), (hI.fact 1 rfl)⟩ (by first | assumption | omega | (dsimp only; omega)) (by first | assumption | omega | (dsimp only; omega))) ?_
  rintro e w2 ⟨rfl, hb⟩
  have hk := Keep.of_below (L := []) hb
  refine ⟨_, rfl, ?_⟩
  replace hI := hI.after hk
  clear hT
  intro a hT
  refine go_ 1 0 [] [1, 2, 3, 6, 15] [0] (by kernel_rfl) hI hT ?_
  rintro g hg
  obtain rfl := len0 hg
  clear hg
  refine ⟨[(1, .int .u32 p), (2, .int .u32 q), (3, .pointer (some ⟨g1, 0, none⟩)), (6, .bool false), (15, .bool (greatM x))], [⟨g1, 27, [.int .u8 x.r, .int .u32 x.n, .int .u32 x.item, .int .u32 x.qty, .int .u32 x.price, .int .u8 x.vr, .int .u32 x.vn, .slice A x.ap.length c, .slice B x.re.length d, .int .u8 x.st]⟩], [⟨0, [1, 0, 1], 0⟩, ⟨0, [1, 1], 0⟩], [], [], by kernel_rfl, trivial, ?_⟩
  clear hI hT
  intro a w3 hI hT
  refine condG_ (greatM x) hT (by kernel_rfl) ?_ ?_
  · intro hb1
    refine go_ 2 0 [] [1, 2, 3, 6] [0] (by kernel_rfl) hI hT ?_
    rintro g hg
    obtain rfl := len0 hg
    clear hg
    refine ⟨[(1, .int .u32 p), (2, .int .u32 q), (3, .pointer (some ⟨g1, 0, none⟩)), (6, .bool false)], [⟨g1, 27, [.int .u8 x.r, .int .u32 x.n, .int .u32 x.item, .int .u32 x.qty, .int .u32 x.price, .int .u8 x.vr, .int .u32 x.vn, .slice A x.ap.length c, .slice B x.re.length d, .int .u8 x.st]⟩], [⟨1, [1, 0, 1, 0, 0], 0⟩, ⟨0, [1, 0, 1, 0, 1], 0⟩, ⟨0, [1, 1], 0⟩], [], [], by kernel_rfl, trivial, ?_⟩
    clear hI hT
    intro a w4 hI hT
    refine callG_ (some 16) 8 #[] hT (by kernel_rfl) (head_any _) ?_
    rintro e w5 ⟨rfl, hb⟩
    have hk := Keep.of_below (L := []) hb
    refine ⟨_, rfl, ?_⟩
    replace hI := hI.after hk
    clear hT
    intro a hT
    refine go_ 2 0 [] [1, 2, 3, 6] [0] (by kernel_rfl) hI hT ?_
    rintro g hg
    obtain rfl := len0 hg
    clear hg
    refine ⟨[(1, .int .u32 p), (2, .int .u32 q), (3, .pointer (some ⟨g1, 0, none⟩)), (6, .bool true)], [⟨g1, 27, [.int .u8 x.r, .int .u32 x.n, .int .u32 x.item, .int .u32 x.qty, .int .u32 x.price, .int .u8 x.vr, .int .u32 x.vn, .slice A x.ap.length c, .slice B x.re.length d, .int .u8 x.st]⟩], [⟨0, [1, 0, 1, 0, 1], 0⟩, ⟨0, [1, 1], 0⟩], [], [], by kernel_rfl, trivial, ?_⟩
    clear hI hT
    intro a w6 hI hT
    refine ret_ [] (rs := [.tmp 6]) (vs := [.bool true]) (l := []) hI hT (by kernel_rfl) (by kernel_rfl) (by kernel_rfl) (by kernel_rfl) ?_
    exact ⟨rfl, hI.keep.below⟩
  · intro hb1
    obtain ⟨hga, hgb, hgc, hgd⟩ := great_no hb1
    have hge : (claimM x x.vr x.vn p).1.ap.length ≤ 60 := by rw [(claim_len x x.vr x.vn p).1]; omega
    have hgf : (claimM x x.vr x.vn p).1.re.length ≤ 60 := by rw [(claim_len x x.vr x.vn p).2.1]; omega
    refine go_ 2 0 [] [1, 2, 3, 6] [0] (by kernel_rfl) hI hT ?_
    rintro g hg
    obtain rfl := len0 hg
    clear hg
    refine ⟨[(1, .int .u32 p), (2, .int .u32 q), (3, .pointer (some ⟨g1, 0, none⟩)), (6, .bool false)], [⟨g1, 27, [.int .u8 x.r, .int .u32 x.n, .int .u32 x.item, .int .u32 x.qty, .int .u32 x.price, .int .u8 x.vr, .int .u32 x.vn, .slice A x.ap.length c, .slice B x.re.length d, .int .u8 x.st]⟩], [⟨0, [1, 1, 0], 0⟩, ⟨0, [1, 1, 1], 0⟩], [], [], by kernel_rfl, trivial, ?_⟩
    clear hI hT
    intro a w7 hI hT
    refine drawG_ [(1, 2), (3, 2), (6, 2), (8, 2), (0, 1), (2, 1), (5, 1), (7, 1), (4, 0), (9, 0), (10, 2), (11, 2)] [] (by kernel_rfl) (by kernel_rfl) (by kernel_rfl) hI ?_
    clear hI
    intro w8 hI hD
    refine goD_ 8 0 [0, 0, 0, 0] [1, 2, 3, 6, 17, 19, 20, 22, 24, 25] panicOk_body hI hD hT ?_
    intro g hg
    obtain rfl := len0 hg
    clear hg
    refine ⟨[(1, .int .u32 p), (2, .int .u32 q), (3, .pointer (some ⟨g1, 0, none⟩)), (6, .bool false), (17, .agg #[.int .u8 x.r, .int .u32 x.n, .int .u32 x.item, .int .u32 x.qty, .int .u32 x.price, .int .u8 x.vr, .int .u32 x.vn, .slice A x.ap.length c, .slice B x.re.length d, .int .u8 x.st]), (19, .agg #[.int .u8 x.vr, .int .u32 x.vn]), (20, .int .u32 p), (22, .agg #[.int .u8 x.r, .int .u32 x.n, .int .u32 x.item, .int .u32 x.qty, .int .u32 x.price, .int .u8 x.vr, .int .u32 x.vn, .slice A x.ap.length c, .slice B x.re.length d, .int .u8 x.st]), (24, .agg #[.int .u8 x.vr, .int .u32 x.vn]), (25, .int .u32 q)], [⟨g1, 27, [.int .u8 x.r, .int .u32 x.n, .int .u32 x.item, .int .u32 x.qty, .int .u32 x.price, .int .u8 x.vr, .int .u32 x.vn, .slice A x.ap.length c, .slice B x.re.length d, .int .u8 x.st]⟩], [(4, 0), (9, 0), (10, 2), (11, 2)], [.pointer (some ⟨g1, 0, none⟩), .pointer (some ⟨g1, 5, none⟩), .pointer (some ⟨g1, 0, none⟩), .pointer (some ⟨g1, 5, none⟩)], [], by kernel_rfl, trivial, ?_⟩
    clear hI hT hD
    intro a w9 hI hD hT
    refine callDG_ (some 21) 11 #[.agg #[.int .u8 x.r, .int .u32 x.n, .int .u32 x.item, .int .u32 x.qty, .int .u32 x.price, .int .u8 x.vr, .int .u32 x.vn, .slice A x.ap.length c, .slice B x.re.length d, .int .u8 x.st], .agg #[.int .u8 x.vr, .int .u32 x.vn], .int .u32 p] hT hD (by kernel_rfl) (may_any _ [.int .u8 x.r, .int .u32 x.n, .int .u32 x.item, .int .u32 x.qty, .int .u32 x.price, .int .u8 x.vr, .int .u32 x.vn, .slice A x.ap.length c, .slice B x.re.length d, .int .u8 x.st] x x.vr x.vn p _ ⟨A, c, B, d, rfl, (hI.fact 0 rfl), (hI.fact 1 rfl)⟩ (by first | assumption | omega | (dsimp only; omega)) (by first | assumption | omega | (dsimp only; omega))) ?_
    rintro e w10 ⟨rfl, hb⟩
    have hk := Keep.of_below (L := []) hb
    refine ⟨_, _, rfl, hD.after hk, ?_⟩
    replace hD := hD.after hk
    replace hI := hI.after hk
    clear hT
    intro a hT
    refine callDG_ (some 26) 11 #[.agg #[.int .u8 x.r, .int .u32 x.n, .int .u32 x.item, .int .u32 x.qty, .int .u32 x.price, .int .u8 x.vr, .int .u32 x.vn, .slice A x.ap.length c, .slice B x.re.length d, .int .u8 x.st], .agg #[.int .u8 x.vr, .int .u32 x.vn], .int .u32 q] hT hD (by kernel_rfl) (may_any _ [.int .u8 x.r, .int .u32 x.n, .int .u32 x.item, .int .u32 x.qty, .int .u32 x.price, .int .u8 x.vr, .int .u32 x.vn, .slice A x.ap.length c, .slice B x.re.length d, .int .u8 x.st] x x.vr x.vn q _ ⟨A, c, B, d, rfl, (hI.fact 0 rfl), (hI.fact 1 rfl)⟩ (by first | assumption | omega | (dsimp only; omega)) (by first | assumption | omega | (dsimp only; omega))) ?_
    rintro e w11 ⟨rfl, hb⟩
    have hk := Keep.of_below (L := []) hb
    refine ⟨_, _, rfl, hD.after hk, ?_⟩
    replace hD := hD.after hk
    replace hI := hI.after hk
    clear hT
    intro a hT
    refine goD_ 2 0 [] [1, 2, 3, 6, 7, 8] panicOk_body hI hD hT ?_
    intro g hg
    obtain rfl := len0 hg
    clear hg
    refine ⟨[(1, .int .u32 p), (2, .int .u32 q), (3, .pointer (some ⟨g1, 0, none⟩)), (6, .bool false), (7, .bool (mayM x x.vr x.vn p)), (8, .bool (mayM x x.vr x.vn q))], [⟨g1, 27, [.int .u8 x.r, .int .u32 x.n, .int .u32 x.item, .int .u32 x.qty, .int .u32 x.price, .int .u8 x.vr, .int .u32 x.vn, .slice A x.ap.length c, .slice B x.re.length d, .int .u8 x.st]⟩], [], [], [], by kernel_rfl, trivial, ?_⟩
    clear hI hT hD
    intro a w12 hI hD hT
    refine doneD_ ?_
    clear hD
    refine go_ 11 0 [] [1, 2, 3, 6, 7, 8, 9, 10, 11] [0] (by kernel_rfl) hI hT ?_
    rintro g hg
    obtain rfl := len0 hg
    clear hg
    refine ⟨[(1, .int .u32 p), (2, .int .u32 q), (3, .pointer (some ⟨g1, 0, none⟩)), (6, .bool false), (7, .bool (mayM x x.vr x.vn p)), (8, .bool (mayM x x.vr x.vn q)), (9, .bool false), (10, .bool false), (11, .int .i64 0)], [⟨g1, 27, [.int .u8 x.r, .int .u32 x.n, .int .u32 x.item, .int .u32 x.qty, .int .u32 x.price, .int .u8 x.vr, .int .u32 x.vn, .slice A x.ap.length c, .slice B x.re.length d, .int .u8 x.st]⟩], [⟨0, [1, 1, 1, 1, 0, 1, 0], 0⟩, ⟨2, [], 0⟩, ⟨0, [1, 1, 1, 1, 1], 0⟩], [], [], by kernel_rfl, trivial, ?_⟩
    clear hI hT
    intro a w13 hI hT
    refine loopG_ (fun (k : Nat) a w' => Inv D w [] [⟨g1, 27, [.int .u8 x.r, .int .u32 x.n, .int .u32 x.item, .int .u32 x.qty, .int .u32 x.price, .int .u8 x.vr, .int .u32 x.vn, .slice A x.ap.length c, .slice B x.re.length d, .int .u8 x.st]⟩] ⟨[], [⟨_, U32s, [.slice A x.ap.length c], x.ap⟩, ⟨_, U32s, [.slice B x.re.length d], x.re⟩]⟩ w' ∧ Knows 123 [(1, .int .u32 p), (2, .int .u32 q), (3, .pointer (some ⟨g1, 0, none⟩)), (6, .bool false), (7, .bool (mayM x x.vr x.vn p)), (8, .bool (mayM x x.vr x.vn q)), (9, .bool (anyEq x.ap k p)), (10, .bool (anyEq x.ap k q)), (11, .int .i64 ↑k)] a ∧ k ≤ x.ap.length) (fun (k : Nat) => x.ap.length - k) (by kernel_rfl) 0 ⟨hI, lessG_ _ hT (by kernel_rfl), Nat.zero_le _⟩ ?_
    clear hI hT
    rintro k a w14 ⟨hI, hT, hk0⟩
    refine go_ 9 0 [0] [1, 2, 3, 6, 7, 8, 9, 10, 11, 31] [0] (by kernel_rfl) hI hT ?_
    rintro g hg
    obtain rfl := len0 hg
    clear hg
    refine ⟨[(1, .int .u32 p), (2, .int .u32 q), (3, .pointer (some ⟨g1, 0, none⟩)), (6, .bool false), (7, .bool (mayM x x.vr x.vn p)), (8, .bool (mayM x x.vr x.vn q)), (9, .bool (anyEq x.ap k p)), (10, .bool (anyEq x.ap k q)), (11, .int .i64 ↑k), (31, .bool (decide ((↑k : Int) < (x.ap.length : Nat))))], [⟨g1, 27, [.int .u8 x.r, .int .u32 x.n, .int .u32 x.item, .int .u32 x.qty, .int .u32 x.price, .int .u8 x.vr, .int .u32 x.vn, .slice A x.ap.length c, .slice B x.re.length d, .int .u8 x.st]⟩], [⟨0, [1, 1, 1, 1, 0, 1, 0, 0, 0, 1], 0⟩, ⟨0, [1, 1, 1, 1, 0, 1, 0, 0, 1], 0⟩], [.pointer (some ⟨g1, 7, none⟩)], [], by kernel_rfl, trivial, ?_⟩
    clear hI hT
    intro a w15 hI hT
    refine condG_ (decide ((↑k : Int) < (x.ap.length : Nat))) hT (by kernel_rfl) ?_ ?_
    · intro hb2
      have hb2d := of_decide_eq_true hb2
      obtain ⟨ad, rfl, hq⟩ := u32_elem (hI.fact 0 rfl) (k := k) (by omega)
      replace hI := hI.rng hq
      refine go_ 7 0 [] [1, 2, 3, 6, 7, 8, 9, 10, 11, 35] [0] (by kernel_rfl) hI hT ?_
      rintro g hg
      obtain rfl := len0 hg
      clear hg
      refine ⟨[(1, .int .u32 p), (2, .int .u32 q), (3, .pointer (some ⟨g1, 0, none⟩)), (6, .bool false), (7, .bool (mayM x x.vr x.vn p)), (8, .bool (mayM x x.vr x.vn q)), (9, .bool (anyEq x.ap k p)), (10, .bool (anyEq x.ap k q)), (11, .int .i64 ↑k), (35, .bool (anyEq x.ap k p))], [⟨g1, 27, [.int .u8 x.r, .int .u32 x.n, .int .u32 x.item, .int .u32 x.qty, .int .u32 x.price, .int .u8 x.vr, .int .u32 x.vn, .slice (some ad) x.ap.length c, .slice B x.re.length d, .int .u8 x.st]⟩], [⟨1, [1, 1, 1, 1, 0, 1, 0, 0, 1, 0, 0, 0], 2⟩, ⟨0, [1, 1, 1, 1, 0, 1, 0, 0, 1, 0, 0, 1], 0⟩, ⟨2, [], 1⟩, ⟨0, [1, 1, 1, 1, 0, 1, 0, 0, 1, 1], 0⟩], [], [], by kernel_rfl, trivial, ?_⟩
      clear hI hT
      intro a w16 hI hT
      refine bcase (anyEq x.ap k p) ?_ ?_
      · intro hb3
        replace hT := hT.rebool (b := anyEq x.ap k p) 35 true (by kernel_rfl) hb3
        refine go_ 13 0 [] [1, 2, 3, 6, 7, 8, 9, 10, 11, 45] [0] (by kernel_rfl) hI hT ?_
        rintro g hg
        obtain rfl := len0 hg
        clear hg
        refine ⟨[(1, .int .u32 p), (2, .int .u32 q), (3, .pointer (some ⟨g1, 0, none⟩)), (6, .bool false), (7, .bool (mayM x x.vr x.vn p)), (8, .bool (mayM x x.vr x.vn q)), (9, .bool true), (10, .bool (anyEq x.ap k q)), (11, .int .i64 ↑k), (45, .bool (anyEq x.ap k q))], [⟨g1, 27, [.int .u8 x.r, .int .u32 x.n, .int .u32 x.item, .int .u32 x.qty, .int .u32 x.price, .int .u8 x.vr, .int .u32 x.vn, .slice (some ad) x.ap.length c, .slice B x.re.length d, .int .u8 x.st]⟩], [⟨1, [1, 1, 1, 1, 0, 1, 0, 0, 1, 0, 0, 1], 2⟩, ⟨2, [], 1⟩, ⟨0, [1, 1, 1, 1, 0, 1, 0, 0, 1, 1], 0⟩], [], [], by kernel_rfl, trivial, ?_⟩
        clear hI hT
        intro a w17 hI hT
        refine bcase (anyEq x.ap k q) ?_ ?_
        · intro hb4
          replace hT := hT.rebool (b := anyEq x.ap k q) 45 true (by kernel_rfl) hb4
          refine go_ 16 0 [] [1, 2, 3, 6, 7, 8, 9, 10, 11] [0] (by kernel_rfl) hI hT ?_
          rintro g hg
          obtain rfl := len0 hg
          clear hg
          refine ⟨[(1, .int .u32 p), (2, .int .u32 q), (3, .pointer (some ⟨g1, 0, none⟩)), (6, .bool false), (7, .bool (mayM x x.vr x.vn p)), (8, .bool (mayM x x.vr x.vn q)), (9, .bool true), (10, .bool true), (11, .int .i64 (IntKind.i64.wrap (↑k + 1)))], [⟨g1, 27, [.int .u8 x.r, .int .u32 x.n, .int .u32 x.item, .int .u32 x.qty, .int .u32 x.price, .int .u8 x.vr, .int .u32 x.vn, .slice (some ad) x.ap.length c, .slice B x.re.length d, .int .u8 x.st]⟩], [], [], [], by kernel_rfl, trivial, ?_⟩
          clear hI hT
          intro a w18 hI hT
          replace hT := hT.re (u := .bool true) 9 (.bool (anyEq x.ap (k + 1) p)) (by kernel_rfl) (by rw [anyEq_succ (by omega), hb3] <;> simp)
          replace hT := hT.re (u := .bool true) 10 (.bool (anyEq x.ap (k + 1) q)) (by kernel_rfl) (by rw [anyEq_succ (by omega), hb4] <;> simp)
          replace hT := hT.re (u := .int .i64 (IntKind.i64.wrap (↑k + 1))) 11 (.int .i64 (↑(k + 1))) (by kernel_rfl) (i64_eq (by omega) (by omega) (by omega))
          exact round_ (k + 1) ⟨(hI.dropFE 0 1), lessG_ _ hT (by kernel_rfl), by omega⟩ (by first | omega | (dsimp only; omega))
        · intro hb4
          replace hT := hT.rebool (b := anyEq x.ap k q) 45 false (by kernel_rfl) hb4
          refine go_ 16 0 [0, 1000] [1, 2, 3, 6, 7, 8, 9, 10, 11] [0] (by kernel_rfl) hI hT ?_
          rintro g hg
          obtain rfl := len0 hg
          clear hg
          refine ⟨[(1, .int .u32 p), (2, .int .u32 q), (3, .pointer (some ⟨g1, 0, none⟩)), (6, .bool false), (7, .bool (mayM x x.vr x.vn p)), (8, .bool (mayM x x.vr x.vn q)), (9, .bool true), (10, .bool ((x.ap.getD k 0 : Int) == q)), (11, .int .i64 (IntKind.i64.wrap (↑k + 1)))], [⟨g1, 27, [.int .u8 x.r, .int .u32 x.n, .int .u32 x.item, .int .u32 x.qty, .int .u32 x.price, .int .u8 x.vr, .int .u32 x.vn, .slice (some ad) x.ap.length c, .slice B x.re.length d, .int .u8 x.st]⟩], [], [.pointer (some ⟨g1, 7, none⟩), .pointer (some (ad.add (k * 1)))], [(0 : Int) ≤ ↑k, ↑k < (x.ap.length : Int)], by kernel_rfl, ⟨by omega, by omega, trivial⟩, ?_⟩
          clear hI hT
          intro a w19 hI hT
          replace hT := hT.re (u := .bool true) 9 (.bool (anyEq x.ap (k + 1) p)) (by kernel_rfl) (by rw [anyEq_succ (by omega), hb3] <;> simp)
          replace hT := hT.re (u := .bool ((x.ap.getD k 0 : Int) == q)) 10 (.bool (anyEq x.ap (k + 1) q)) (by kernel_rfl) (by rw [anyEq_succ (by omega), hb4] <;> simp)
          replace hT := hT.re (u := .int .i64 (IntKind.i64.wrap (↑k + 1))) 11 (.int .i64 (↑(k + 1))) (by kernel_rfl) (i64_eq (by omega) (by omega) (by omega))
          exact round_ (k + 1) ⟨(hI.dropFE 0 1), lessG_ _ hT (by kernel_rfl), by omega⟩ (by first | omega | (dsimp only; omega))
      · intro hb3
        replace hT := hT.rebool (b := anyEq x.ap k p) 35 false (by kernel_rfl) hb3
        refine go_ 13 0 [0, 1000] [1, 2, 3, 6, 7, 8, 9, 10, 11, 45] [0] (by kernel_rfl) hI hT ?_
        rintro g hg
        obtain rfl := len0 hg
        clear hg
        refine ⟨[(1, .int .u32 p), (2, .int .u32 q), (3, .pointer (some ⟨g1, 0, none⟩)), (6, .bool false), (7, .bool (mayM x x.vr x.vn p)), (8, .bool (mayM x x.vr x.vn q)), (9, .bool ((x.ap.getD k 0 : Int) == p)), (10, .bool (anyEq x.ap k q)), (11, .int .i64 ↑k), (45, .bool (anyEq x.ap k q))], [⟨g1, 27, [.int .u8 x.r, .int .u32 x.n, .int .u32 x.item, .int .u32 x.qty, .int .u32 x.price, .int .u8 x.vr, .int .u32 x.vn, .slice (some ad) x.ap.length c, .slice B x.re.length d, .int .u8 x.st]⟩], [⟨1, [1, 1, 1, 1, 0, 1, 0, 0, 1, 0, 0, 1], 2⟩, ⟨2, [], 1⟩, ⟨0, [1, 1, 1, 1, 0, 1, 0, 0, 1, 1], 0⟩], [.pointer (some ⟨g1, 7, none⟩), .pointer (some (ad.add (k * 1)))], [(0 : Int) ≤ ↑k, ↑k < (x.ap.length : Int)], by kernel_rfl, ⟨by omega, by omega, trivial⟩, ?_⟩
        clear hI hT
        intro a w20 hI hT
        refine bcase (anyEq x.ap k q) ?_ ?_
        · intro hb5
          replace hT := hT.rebool (b := anyEq x.ap k q) 45 true (by kernel_rfl) hb5
          refine go_ 16 0 [] [1, 2, 3, 6, 7, 8, 9, 10, 11] [0] (by kernel_rfl) hI hT ?_
          rintro g hg
          obtain rfl := len0 hg
          clear hg
          refine ⟨[(1, .int .u32 p), (2, .int .u32 q), (3, .pointer (some ⟨g1, 0, none⟩)), (6, .bool false), (7, .bool (mayM x x.vr x.vn p)), (8, .bool (mayM x x.vr x.vn q)), (9, .bool ((x.ap.getD k 0 : Int) == p)), (10, .bool true), (11, .int .i64 (IntKind.i64.wrap (↑k + 1)))], [⟨g1, 27, [.int .u8 x.r, .int .u32 x.n, .int .u32 x.item, .int .u32 x.qty, .int .u32 x.price, .int .u8 x.vr, .int .u32 x.vn, .slice (some ad) x.ap.length c, .slice B x.re.length d, .int .u8 x.st]⟩], [], [], [], by kernel_rfl, trivial, ?_⟩
          clear hI hT
          intro a w21 hI hT
          replace hT := hT.re (u := .bool ((x.ap.getD k 0 : Int) == p)) 9 (.bool (anyEq x.ap (k + 1) p)) (by kernel_rfl) (by rw [anyEq_succ (by omega), hb3] <;> simp)
          replace hT := hT.re (u := .bool true) 10 (.bool (anyEq x.ap (k + 1) q)) (by kernel_rfl) (by rw [anyEq_succ (by omega), hb5] <;> simp)
          replace hT := hT.re (u := .int .i64 (IntKind.i64.wrap (↑k + 1))) 11 (.int .i64 (↑(k + 1))) (by kernel_rfl) (i64_eq (by omega) (by omega) (by omega))
          exact round_ (k + 1) ⟨(hI.dropFE 0 1), lessG_ _ hT (by kernel_rfl), by omega⟩ (by first | omega | (dsimp only; omega))
        · intro hb5
          replace hT := hT.rebool (b := anyEq x.ap k q) 45 false (by kernel_rfl) hb5
          refine go_ 16 0 [0, 1000] [1, 2, 3, 6, 7, 8, 9, 10, 11] [0] (by kernel_rfl) hI hT ?_
          rintro g hg
          obtain rfl := len0 hg
          clear hg
          refine ⟨[(1, .int .u32 p), (2, .int .u32 q), (3, .pointer (some ⟨g1, 0, none⟩)), (6, .bool false), (7, .bool (mayM x x.vr x.vn p)), (8, .bool (mayM x x.vr x.vn q)), (9, .bool ((x.ap.getD k 0 : Int) == p)), (10, .bool ((x.ap.getD k 0 : Int) == q)), (11, .int .i64 (IntKind.i64.wrap (↑k + 1)))], [⟨g1, 27, [.int .u8 x.r, .int .u32 x.n, .int .u32 x.item, .int .u32 x.qty, .int .u32 x.price, .int .u8 x.vr, .int .u32 x.vn, .slice (some ad) x.ap.length c, .slice B x.re.length d, .int .u8 x.st]⟩], [], [.pointer (some ⟨g1, 7, none⟩), .pointer (some (ad.add (k * 1)))], [(0 : Int) ≤ ↑k, ↑k < (x.ap.length : Int)], by kernel_rfl, ⟨by omega, by omega, trivial⟩, ?_⟩
          clear hI hT
          intro a w22 hI hT
          replace hT := hT.re (u := .bool ((x.ap.getD k 0 : Int) == p)) 9 (.bool (anyEq x.ap (k + 1) p)) (by kernel_rfl) (by rw [anyEq_succ (by omega), hb3] <;> simp)
          replace hT := hT.re (u := .bool ((x.ap.getD k 0 : Int) == q)) 10 (.bool (anyEq x.ap (k + 1) q)) (by kernel_rfl) (by rw [anyEq_succ (by omega), hb5] <;> simp)
          replace hT := hT.re (u := .int .i64 (IntKind.i64.wrap (↑k + 1))) 11 (.int .i64 (↑(k + 1))) (by kernel_rfl) (i64_eq (by omega) (by omega) (by omega))
          exact round_ (k + 1) ⟨(hI.dropFE 0 1), lessG_ _ hT (by kernel_rfl), by omega⟩ (by first | omega | (dsimp only; omega))
    · intro hb2
      have hb2d := of_decide_eq_false hb2
      obtain rfl : k = x.ap.length := by omega
      refine exit_ (id := 0) (k'' := [⟨0, [1, 1, 1, 1, 1], 0⟩]) (by kernel_rfl) (by kernel_rfl) (by kernel_rfl) ?_
      refine go_ 2 0 [] [1, 2, 3, 6, 7, 8, 9, 10] [0] (by kernel_rfl) hI hT ?_
      rintro g hg
      obtain rfl := len0 hg
      clear hg
      refine ⟨[(1, .int .u32 p), (2, .int .u32 q), (3, .pointer (some ⟨g1, 0, none⟩)), (6, .bool false), (7, .bool (mayM x x.vr x.vn p)), (8, .bool (mayM x x.vr x.vn q)), (9, .bool (anyEq x.ap x.ap.length p)), (10, .bool (anyEq x.ap x.ap.length q))], [⟨g1, 27, [.int .u8 x.r, .int .u32 x.n, .int .u32 x.item, .int .u32 x.qty, .int .u32 x.price, .int .u8 x.vr, .int .u32 x.vn, .slice A x.ap.length c, .slice B x.re.length d, .int .u8 x.st]⟩], [⟨0, [1, 1, 1, 1, 1, 0, 0], 0⟩, ⟨0, [1, 1, 1, 1, 1, 0, 1], 0⟩, ⟨0, [1, 1, 1, 1, 1, 1], 0⟩], [], [], by kernel_rfl, trivial, ?_⟩
      clear hI hT
      intro a w23 hI hT
      refine cut_ (fun a w' => Inv D w [] [⟨g1, 27, [.int .u8 x.r, .int .u32 x.n, .int .u32 x.item, .int .u32 x.qty, .int .u32 x.price, .int .u8 x.vr, .int .u32 x.vn, .slice A x.ap.length c, .slice B x.re.length d, .int .u8 x.st]⟩] ⟨[], [⟨_, U32s, [.slice A x.ap.length c], x.ap⟩, ⟨_, U32s, [.slice B x.re.length d], x.re⟩]⟩ w' ∧ Knows 123 [(1, .int .u32 p), (2, .int .u32 q), (3, .pointer (some ⟨g1, 0, none⟩)), (6, .bool false), (7, .bool (mayM x x.vr x.vn p)), (85, .bool false)] a) ?_ ?_
      · refine go_ 4 0 [] [1, 2, 3, 6, 7, 8, 9, 10, 56] [0] (by kernel_rfl) hI hT ?_
        rintro g hg
        obtain rfl := len0 hg
        clear hg
        refine ⟨[(1, .int .u32 p), (2, .int .u32 q), (3, .pointer (some ⟨g1, 0, none⟩)), (6, .bool false), (7, .bool (mayM x x.vr x.vn p)), (8, .bool (mayM x x.vr x.vn q)), (9, .bool (anyEq x.ap x.ap.length p)), (10, .bool (anyEq x.ap x.ap.length q)), (56, .bool (!(anyEq x.ap x.ap.length p)))], [⟨g1, 27, [.int .u8 x.r, .int .u32 x.n, .int .u32 x.item, .int .u32 x.qty, .int .u32 x.price, .int .u8 x.vr, .int .u32 x.vn, .slice A x.ap.length c, .slice B x.re.length d, .int .u8 x.st]⟩], [⟨1, [1, 1, 1, 1, 1, 0, 0], 3⟩], [], [], by kernel_rfl, trivial, ?_⟩
        clear hI hT
        intro a w24 hI hT
        refine bcase (anyEq x.ap x.ap.length p) ?_ ?_
        · intro hb6
          replace hT := hT.rebool (b := !(anyEq x.ap x.ap.length p)) 56 false (by kernel_rfl) (notT hb6)
          refine go_ 14 0 [0] [1, 2, 3, 6, 7, 9, 65, 70] [0] (by kernel_rfl) hI hT ?_
          rintro g hg
          obtain rfl := len0 hg
          clear hg
          refine ⟨[(1, .int .u32 p), (2, .int .u32 q), (3, .pointer (some ⟨g1, 0, none⟩)), (6, .bool false), (7, .bool (mayM x x.vr x.vn p)), (9, .bool (anyEq x.ap x.ap.length p)), (65, .bool false), (70, .bool (((x.ap.length : Nat) : Int) == 1))], [⟨g1, 27, [.int .u8 x.r, .int .u32 x.n, .int .u32 x.item, .int .u32 x.qty, .int .u32 x.price, .int .u8 x.vr, .int .u32 x.vn, .slice A x.ap.length c, .slice B x.re.length d, .int .u8 x.st]⟩], [⟨1, [1, 1, 1, 1, 1, 0, 0], 17⟩], [.pointer (some ⟨g1, 7, none⟩)], [], by kernel_rfl, trivial, ?_⟩
          clear hI hT
          intro a w25 hI hT
          refine bcase (((x.ap.length : Nat) : Int) == 1) ?_ ?_
          · intro hb7
            replace hT := hT.rebool (b := ((x.ap.length : Nat) : Int) == 1) 70 true (by kernel_rfl) hb7
            have hb7d := eq_of_beq hb7
            refine go_ 3 0 [] [1, 2, 3, 6, 7, 65, 73] [0] (by kernel_rfl) hI hT ?_
            rintro g hg
            obtain rfl := len0 hg
            clear hg
            refine ⟨[(1, .int .u32 p), (2, .int .u32 q), (3, .pointer (some ⟨g1, 0, none⟩)), (6, .bool false), (7, .bool (mayM x x.vr x.vn p)), (65, .bool false), (73, .bool (anyEq x.ap x.ap.length p))], [⟨g1, 27, [.int .u8 x.r, .int .u32 x.n, .int .u32 x.item, .int .u32 x.qty, .int .u32 x.price, .int .u8 x.vr, .int .u32 x.vn, .slice A x.ap.length c, .slice B x.re.length d, .int .u8 x.st]⟩], [⟨1, [1, 1, 1, 1, 1, 0, 0], 20⟩], [], [], by kernel_rfl, trivial, ?_⟩
            clear hI hT
            intro a w26 hI hT
            replace hT := hT.rebool (b := anyEq x.ap x.ap.length p) 73 true (by kernel_rfl) hb6
            refine go_ 4 0 [] [1, 2, 3, 6, 7, 77] [0] (by kernel_rfl) hI hT ?_
            rintro g hg
            obtain rfl := len0 hg
            clear hg
            refine ⟨[(1, .int .u32 p), (2, .int .u32 q), (3, .pointer (some ⟨g1, 0, none⟩)), (6, .bool false), (7, .bool (mayM x x.vr x.vn p)), (77, .bool (mayM x x.vr x.vn p))], [⟨g1, 27, [.int .u8 x.r, .int .u32 x.n, .int .u32 x.item, .int .u32 x.qty, .int .u32 x.price, .int .u8 x.vr, .int .u32 x.vn, .slice A x.ap.length c, .slice B x.re.length d, .int .u8 x.st]⟩], [⟨1, [1, 1, 1, 1, 1, 0, 0], 24⟩], [], [], by kernel_rfl, trivial, ?_⟩
            clear hI hT
            intro a w27 hI hT
            refine bcase (mayM x x.vr x.vn p) ?_ ?_
            · intro hb8
              replace hT := hT.rebool (b := mayM x x.vr x.vn p) 77 true (by kernel_rfl) hb8
              refine go_ 9 0 [] [1, 2, 3, 6, 7, 85] [0] (by kernel_rfl) hI hT ?_
              rintro g hg
              obtain rfl := len0 hg
              clear hg
              refine ⟨[(1, .int .u32 p), (2, .int .u32 q), (3, .pointer (some ⟨g1, 0, none⟩)), (6, .bool false), (7, .bool (mayM x x.vr x.vn p)), (85, .bool true)], [⟨g1, 27, [.int .u8 x.r, .int .u32 x.n, .int .u32 x.item, .int .u32 x.qty, .int .u32 x.price, .int .u8 x.vr, .int .u32 x.vn, .slice A x.ap.length c, .slice B x.re.length d, .int .u8 x.st]⟩], [], [], [], by kernel_rfl, trivial, ?_⟩
              clear hI hT
              intro a w28 hI hT
              replace hT := hT.re (u := .bool true) 85 (.bool false) (by kernel_rfl) (by exact absurd (cl_p2 (vr := x.vr) (vn := x.vn) (by omega) hb6) (by rw [hb8]; simp))
              exact cutEnd_ ⟨invPick [0] (by kernel_rfl) hI (by kernel_rfl), lessG_ _ hT (by kernel_rfl)⟩
            · intro hb8
              replace hT := hT.rebool (b := mayM x x.vr x.vn p) 77 false (by kernel_rfl) hb8
              refine go_ 2 0 [] [1, 2, 3, 6, 7, 77, 79] [0] (by kernel_rfl) hI hT ?_
              rintro g hg
              obtain rfl := len0 hg
              clear hg
              refine ⟨[(1, .int .u32 p), (2, .int .u32 q), (3, .pointer (some ⟨g1, 0, none⟩)), (6, .bool false), (7, .bool (mayM x x.vr x.vn p)), (77, .bool false), (79, .bool (mayM x x.vr x.vn p))], [⟨g1, 27, [.int .u8 x.r, .int .u32 x.n, .int .u32 x.item, .int .u32 x.qty, .int .u32 x.price, .int .u8 x.vr, .int .u32 x.vn, .slice A x.ap.length c, .slice B x.re.length d, .int .u8 x.st]⟩], [⟨1, [1, 1, 1, 1, 1, 0, 0], 26⟩], [], [], by kernel_rfl, trivial, ?_⟩
              clear hI hT
              intro a w29 hI hT
              replace hT := hT.rebool (b := mayM x x.vr x.vn p) 79 false (by kernel_rfl) hb8
              refine go_ 7 0 [] [1, 2, 3, 6, 7, 85] [0] (by kernel_rfl) hI hT ?_
              rintro g hg
              obtain rfl := len0 hg
              clear hg
              refine ⟨[(1, .int .u32 p), (2, .int .u32 q), (3, .pointer (some ⟨g1, 0, none⟩)), (6, .bool false), (7, .bool (mayM x x.vr x.vn p)), (85, .bool false)], [⟨g1, 27, [.int .u8 x.r, .int .u32 x.n, .int .u32 x.item, .int .u32 x.qty, .int .u32 x.price, .int .u8 x.vr, .int .u32 x.vn, .slice A x.ap.length c, .slice B x.re.length d, .int .u8 x.st]⟩], [], [], [], by kernel_rfl, trivial, ?_⟩
              clear hI hT
              intro a w30 hI hT
              exact cutEnd_ ⟨invPick [0] (by kernel_rfl) hI (by kernel_rfl), lessG_ _ hT (by kernel_rfl)⟩
          · intro hb7
            replace hT := hT.rebool (b := ((x.ap.length : Nat) : Int) == 1) 70 false (by kernel_rfl) hb7
            have hb7d := ne_of_beq_false' hb7
            refine go_ 9 0 [] [1, 2, 3, 6, 7, 77, 79] [0] (by kernel_rfl) hI hT ?_
            rintro g hg
            obtain rfl := len0 hg
            clear hg
            refine ⟨[(1, .int .u32 p), (2, .int .u32 q), (3, .pointer (some ⟨g1, 0, none⟩)), (6, .bool false), (7, .bool (mayM x x.vr x.vn p)), (77, .bool false), (79, .bool (mayM x x.vr x.vn p))], [⟨g1, 27, [.int .u8 x.r, .int .u32 x.n, .int .u32 x.item, .int .u32 x.qty, .int .u32 x.price, .int .u8 x.vr, .int .u32 x.vn, .slice A x.ap.length c, .slice B x.re.length d, .int .u8 x.st]⟩], [⟨1, [1, 1, 1, 1, 1, 0, 0], 26⟩], [], [], by kernel_rfl, trivial, ?_⟩
            clear hI hT
            intro a w31 hI hT
            refine bcase (mayM x x.vr x.vn p) ?_ ?_
            · intro hb9
              replace hT := hT.rebool (b := mayM x x.vr x.vn p) 79 true (by kernel_rfl) hb9
              refine go_ 7 0 [0] [1, 2, 3, 6, 7, 85] [0] (by kernel_rfl) hI hT ?_
              rintro g hg
              obtain rfl := len0 hg
              clear hg
              refine ⟨[(1, .int .u32 p), (2, .int .u32 q), (3, .pointer (some ⟨g1, 0, none⟩)), (6, .bool false), (7, .bool (mayM x x.vr x.vn p)), (85, .bool (decide (((x.re.length : Nat) : Int) > 0)))], [⟨g1, 27, [.int .u8 x.r, .int .u32 x.n, .int .u32 x.item, .int .u32 x.qty, .int .u32 x.price, .int .u8 x.vr, .int .u32 x.vn, .slice A x.ap.length c, .slice B x.re.length d, .int .u8 x.st]⟩], [], [.pointer (some ⟨g1, 8, none⟩)], [], by kernel_rfl, trivial, ?_⟩
              clear hI hT
              intro a w32 hI hT
              replace hT := hT.re (u := .bool (decide (((x.re.length : Nat) : Int) > 0))) 85 (.bool false) (by kernel_rfl) (by rw [decide_eq_false (by have := cl_p3 hb9; omega)])
              exact cutEnd_ ⟨invPick [0] (by kernel_rfl) hI (by kernel_rfl), lessG_ _ hT (by kernel_rfl)⟩
            · intro hb9
              replace hT := hT.rebool (b := mayM x x.vr x.vn p) 79 false (by kernel_rfl) hb9
              refine go_ 7 0 [] [1, 2, 3, 6, 7, 85] [0] (by kernel_rfl) hI hT ?_
              rintro g hg
              obtain rfl := len0 hg
              clear hg
              refine ⟨[(1, .int .u32 p), (2, .int .u32 q), (3, .pointer (some ⟨g1, 0, none⟩)), (6, .bool false), (7, .bool (mayM x x.vr x.vn p)), (85, .bool false)], [⟨g1, 27, [.int .u8 x.r, .int .u32 x.n, .int .u32 x.item, .int .u32 x.qty, .int .u32 x.price, .int .u8 x.vr, .int .u32 x.vn, .slice A x.ap.length c, .slice B x.re.length d, .int .u8 x.st]⟩], [], [], [], by kernel_rfl, trivial, ?_⟩
              clear hI hT
              intro a w33 hI hT
              exact cutEnd_ ⟨invPick [0] (by kernel_rfl) hI (by kernel_rfl), lessG_ _ hT (by kernel_rfl)⟩
        · intro hb6
          replace hT := hT.rebool (b := !(anyEq x.ap x.ap.length p)) 56 true (by kernel_rfl) (notF hb6)
          refine go_ 4 0 [] [1, 2, 3, 6, 7, 8, 9, 60] [0] (by kernel_rfl) hI hT ?_
          rintro g hg
          obtain rfl := len0 hg
          clear hg
          refine ⟨[(1, .int .u32 p), (2, .int .u32 q), (3, .pointer (some ⟨g1, 0, none⟩)), (6, .bool false), (7, .bool (mayM x x.vr x.vn p)), (8, .bool (mayM x x.vr x.vn q)), (9, .bool (anyEq x.ap x.ap.length p)), (60, .bool (!(anyEq x.ap x.ap.length q)))], [⟨g1, 27, [.int .u8 x.r, .int .u32 x.n, .int .u32 x.item, .int .u32 x.qty, .int .u32 x.price, .int .u8 x.vr, .int .u32 x.vn, .slice A x.ap.length c, .slice B x.re.length d, .int .u8 x.st]⟩], [⟨1, [1, 1, 1, 1, 1, 0, 0], 7⟩], [], [], by kernel_rfl, trivial, ?_⟩
          clear hI hT
          intro a w34 hI hT
          refine bcase (anyEq x.ap x.ap.length q) ?_ ?_
          · intro hb10
            replace hT := hT.rebool (b := !(anyEq x.ap x.ap.length q)) 60 false (by kernel_rfl) (notT hb10)
            refine go_ 10 0 [0] [1, 2, 3, 6, 7, 9, 65, 70] [0] (by kernel_rfl) hI hT ?_
            rintro g hg
            obtain rfl := len0 hg
            clear hg
            refine ⟨[(1, .int .u32 p), (2, .int .u32 q), (3, .pointer (some ⟨g1, 0, none⟩)), (6, .bool false), (7, .bool (mayM x x.vr x.vn p)), (9, .bool (anyEq x.ap x.ap.length p)), (65, .bool false), (70, .bool (((x.ap.length : Nat) : Int) == 1))], [⟨g1, 27, [.int .u8 x.r, .int .u32 x.n, .int .u32 x.item, .int .u32 x.qty, .int .u32 x.price, .int .u8 x.vr, .int .u32 x.vn, .slice A x.ap.length c, .slice B x.re.length d, .int .u8 x.st]⟩], [⟨1, [1, 1, 1, 1, 1, 0, 0], 17⟩], [.pointer (some ⟨g1, 7, none⟩)], [], by kernel_rfl, trivial, ?_⟩
            clear hI hT
            intro a w35 hI hT
            refine bcase (((x.ap.length : Nat) : Int) == 1) ?_ ?_
            · intro hb11
              replace hT := hT.rebool (b := ((x.ap.length : Nat) : Int) == 1) 70 true (by kernel_rfl) hb11
              have hb11d := eq_of_beq hb11
              refine go_ 3 0 [] [1, 2, 3, 6, 7, 65, 73] [0] (by kernel_rfl) hI hT ?_
              rintro g hg
              obtain rfl := len0 hg
              clear hg
              refine ⟨[(1, .int .u32 p), (2, .int .u32 q), (3, .pointer (some ⟨g1, 0, none⟩)), (6, .bool false), (7, .bool (mayM x x.vr x.vn p)), (65, .bool false), (73, .bool (anyEq x.ap x.ap.length p))], [⟨g1, 27, [.int .u8 x.r, .int .u32 x.n, .int .u32 x.item, .int .u32 x.qty, .int .u32 x.price, .int .u8 x.vr, .int .u32 x.vn, .slice A x.ap.length c, .slice B x.re.length d, .int .u8 x.st]⟩], [⟨1, [1, 1, 1, 1, 1, 0, 0], 20⟩], [], [], by kernel_rfl, trivial, ?_⟩
              clear hI hT
              intro a w36 hI hT
              replace hT := hT.rebool (b := anyEq x.ap x.ap.length p) 73 false (by kernel_rfl) hb6
              refine go_ 6 0 [] [1, 2, 3, 6, 7, 77, 79] [0] (by kernel_rfl) hI hT ?_
              rintro g hg
              obtain rfl := len0 hg
              clear hg
              refine ⟨[(1, .int .u32 p), (2, .int .u32 q), (3, .pointer (some ⟨g1, 0, none⟩)), (6, .bool false), (7, .bool (mayM x x.vr x.vn p)), (77, .bool false), (79, .bool (mayM x x.vr x.vn p))], [⟨g1, 27, [.int .u8 x.r, .int .u32 x.n, .int .u32 x.item, .int .u32 x.qty, .int .u32 x.price, .int .u8 x.vr, .int .u32 x.vn, .slice A x.ap.length c, .slice B x.re.length d, .int .u8 x.st]⟩], [⟨1, [1, 1, 1, 1, 1, 0, 0], 26⟩], [], [], by kernel_rfl, trivial, ?_⟩
              clear hI hT
              intro a w37 hI hT
              refine bcase (mayM x x.vr x.vn p) ?_ ?_
              · intro hb12
                replace hT := hT.rebool (b := mayM x x.vr x.vn p) 79 true (by kernel_rfl) hb12
                refine go_ 7 0 [0] [1, 2, 3, 6, 7, 85] [0] (by kernel_rfl) hI hT ?_
                rintro g hg
                obtain rfl := len0 hg
                clear hg
                refine ⟨[(1, .int .u32 p), (2, .int .u32 q), (3, .pointer (some ⟨g1, 0, none⟩)), (6, .bool false), (7, .bool (mayM x x.vr x.vn p)), (85, .bool (decide (((x.re.length : Nat) : Int) > 0)))], [⟨g1, 27, [.int .u8 x.r, .int .u32 x.n, .int .u32 x.item, .int .u32 x.qty, .int .u32 x.price, .int .u8 x.vr, .int .u32 x.vn, .slice A x.ap.length c, .slice B x.re.length d, .int .u8 x.st]⟩], [], [.pointer (some ⟨g1, 8, none⟩)], [], by kernel_rfl, trivial, ?_⟩
                clear hI hT
                intro a w38 hI hT
                replace hT := hT.re (u := .bool (decide (((x.re.length : Nat) : Int) > 0))) 85 (.bool false) (by kernel_rfl) (by rw [decide_eq_false (by have := cl_p3 hb12; omega)])
                exact cutEnd_ ⟨invPick [0] (by kernel_rfl) hI (by kernel_rfl), lessG_ _ hT (by kernel_rfl)⟩
              · intro hb12
                replace hT := hT.rebool (b := mayM x x.vr x.vn p) 79 false (by kernel_rfl) hb12
                refine go_ 7 0 [] [1, 2, 3, 6, 7, 85] [0] (by kernel_rfl) hI hT ?_
                rintro g hg
                obtain rfl := len0 hg
                clear hg
                refine ⟨[(1, .int .u32 p), (2, .int .u32 q), (3, .pointer (some ⟨g1, 0, none⟩)), (6, .bool false), (7, .bool (mayM x x.vr x.vn p)), (85, .bool false)], [⟨g1, 27, [.int .u8 x.r, .int .u32 x.n, .int .u32 x.item, .int .u32 x.qty, .int .u32 x.price, .int .u8 x.vr, .int .u32 x.vn, .slice A x.ap.length c, .slice B x.re.length d, .int .u8 x.st]⟩], [], [], [], by kernel_rfl, trivial, ?_⟩
                clear hI hT
                intro a w39 hI hT
                exact cutEnd_ ⟨invPick [0] (by kernel_rfl) hI (by kernel_rfl), lessG_ _ hT (by kernel_rfl)⟩
            · intro hb11
              replace hT := hT.rebool (b := ((x.ap.length : Nat) : Int) == 1) 70 false (by kernel_rfl) hb11
              have hb11d := ne_of_beq_false' hb11
              refine go_ 9 0 [] [1, 2, 3, 6, 7, 77, 79] [0] (by kernel_rfl) hI hT ?_
              rintro g hg
              obtain rfl := len0 hg
              clear hg
              refine ⟨[(1, .int .u32 p), (2, .int .u32 q), (3, .pointer (some ⟨g1, 0, none⟩)), (6, .bool false), (7, .bool (mayM x x.vr x.vn p)), (77, .bool false), (79, .bool (mayM x x.vr x.vn p))], [⟨g1, 27, [.int .u8 x.r, .int .u32 x.n, .int .u32 x.item, .int .u32 x.qty, .int .u32 x.price, .int .u8 x.vr, .int .u32 x.vn, .slice A x.ap.length c, .slice B x.re.length d, .int .u8 x.st]⟩], [⟨1, [1, 1, 1, 1, 1, 0, 0], 26⟩], [], [], by kernel_rfl, trivial, ?_⟩
              clear hI hT
              intro a w40 hI hT
              refine bcase (mayM x x.vr x.vn p) ?_ ?_
              · intro hb13
                replace hT := hT.rebool (b := mayM x x.vr x.vn p) 79 true (by kernel_rfl) hb13
                refine go_ 7 0 [0] [1, 2, 3, 6, 7, 85] [0] (by kernel_rfl) hI hT ?_
                rintro g hg
                obtain rfl := len0 hg
                clear hg
                refine ⟨[(1, .int .u32 p), (2, .int .u32 q), (3, .pointer (some ⟨g1, 0, none⟩)), (6, .bool false), (7, .bool (mayM x x.vr x.vn p)), (85, .bool (decide (((x.re.length : Nat) : Int) > 0)))], [⟨g1, 27, [.int .u8 x.r, .int .u32 x.n, .int .u32 x.item, .int .u32 x.qty, .int .u32 x.price, .int .u8 x.vr, .int .u32 x.vn, .slice A x.ap.length c, .slice B x.re.length d, .int .u8 x.st]⟩], [], [.pointer (some ⟨g1, 8, none⟩)], [], by kernel_rfl, trivial, ?_⟩
                clear hI hT
                intro a w41 hI hT
                replace hT := hT.re (u := .bool (decide (((x.re.length : Nat) : Int) > 0))) 85 (.bool false) (by kernel_rfl) (by rw [decide_eq_false (by have := cl_p3 hb13; omega)])
                exact cutEnd_ ⟨invPick [0] (by kernel_rfl) hI (by kernel_rfl), lessG_ _ hT (by kernel_rfl)⟩
              · intro hb13
                replace hT := hT.rebool (b := mayM x x.vr x.vn p) 79 false (by kernel_rfl) hb13
                refine go_ 7 0 [] [1, 2, 3, 6, 7, 85] [0] (by kernel_rfl) hI hT ?_
                rintro g hg
                obtain rfl := len0 hg
                clear hg
                refine ⟨[(1, .int .u32 p), (2, .int .u32 q), (3, .pointer (some ⟨g1, 0, none⟩)), (6, .bool false), (7, .bool (mayM x x.vr x.vn p)), (85, .bool false)], [⟨g1, 27, [.int .u8 x.r, .int .u32 x.n, .int .u32 x.item, .int .u32 x.qty, .int .u32 x.price, .int .u8 x.vr, .int .u32 x.vn, .slice A x.ap.length c, .slice B x.re.length d, .int .u8 x.st]⟩], [], [], [], by kernel_rfl, trivial, ?_⟩
                clear hI hT
                intro a w42 hI hT
                exact cutEnd_ ⟨invPick [0] (by kernel_rfl) hI (by kernel_rfl), lessG_ _ hT (by kernel_rfl)⟩
          · intro hb10
            replace hT := hT.rebool (b := !(anyEq x.ap x.ap.length q)) 60 true (by kernel_rfl) (notF hb10)
            refine go_ 5 0 [] [1, 2, 3, 6, 7, 9, 65] [0] (by kernel_rfl) hI hT ?_
            rintro g hg
            obtain rfl := len0 hg
            clear hg
            refine ⟨[(1, .int .u32 p), (2, .int .u32 q), (3, .pointer (some ⟨g1, 0, none⟩)), (6, .bool false), (7, .bool (mayM x x.vr x.vn p)), (9, .bool (anyEq x.ap x.ap.length p)), (65, .bool (!((mayM x x.vr x.vn p) == (mayM x x.vr x.vn q))))], [⟨g1, 27, [.int .u8 x.r, .int .u32 x.n, .int .u32 x.item, .int .u32 x.qty, .int .u32 x.price, .int .u8 x.vr, .int .u32 x.vn, .slice A x.ap.length c, .slice B x.re.length d, .int .u8 x.st]⟩], [⟨1, [1, 1, 1, 1, 1, 0, 0], 12⟩], [], [], by kernel_rfl, trivial, ?_⟩
            clear hI hT
            intro a w43 hI hT
            refine bcase ((mayM x x.vr x.vn p) == (mayM x x.vr x.vn q)) ?_ ?_
            · intro hb14
              replace hT := hT.rebool (b := !((mayM x x.vr x.vn p) == (mayM x x.vr x.vn q))) 65 false (by kernel_rfl) (notT hb14)
              refine go_ 5 0 [0] [1, 2, 3, 6, 7, 9, 65, 70] [0] (by kernel_rfl) hI hT ?_
              rintro g hg
              obtain rfl := len0 hg
              clear hg
              refine ⟨[(1, .int .u32 p), (2, .int .u32 q), (3, .pointer (some ⟨g1, 0, none⟩)), (6, .bool false), (7, .bool (mayM x x.vr x.vn p)), (9, .bool (anyEq x.ap x.ap.length p)), (65, .bool false), (70, .bool (((x.ap.length : Nat) : Int) == 1))], [⟨g1, 27, [.int .u8 x.r, .int .u32 x.n, .int .u32 x.item, .int .u32 x.qty, .int .u32 x.price, .int .u8 x.vr, .int .u32 x.vn, .slice A x.ap.length c, .slice B x.re.length d, .int .u8 x.st]⟩], [⟨1, [1, 1, 1, 1, 1, 0, 0], 17⟩], [.pointer (some ⟨g1, 7, none⟩)], [], by kernel_rfl, trivial, ?_⟩
              clear hI hT
              intro a w44 hI hT
              refine bcase (((x.ap.length : Nat) : Int) == 1) ?_ ?_
              · intro hb15
                replace hT := hT.rebool (b := ((x.ap.length : Nat) : Int) == 1) 70 true (by kernel_rfl) hb15
                have hb15d := eq_of_beq hb15
                refine go_ 3 0 [] [1, 2, 3, 6, 7, 65, 73] [0] (by kernel_rfl) hI hT ?_
                rintro g hg
                obtain rfl := len0 hg
                clear hg
                refine ⟨[(1, .int .u32 p), (2, .int .u32 q), (3, .pointer (some ⟨g1, 0, none⟩)), (6, .bool false), (7, .bool (mayM x x.vr x.vn p)), (65, .bool false), (73, .bool (anyEq x.ap x.ap.length p))], [⟨g1, 27, [.int .u8 x.r, .int .u32 x.n, .int .u32 x.item, .int .u32 x.qty, .int .u32 x.price, .int .u8 x.vr, .int .u32 x.vn, .slice A x.ap.length c, .slice B x.re.length d, .int .u8 x.st]⟩], [⟨1, [1, 1, 1, 1, 1, 0, 0], 20⟩], [], [], by kernel_rfl, trivial, ?_⟩
                clear hI hT
                intro a w45 hI hT
                replace hT := hT.rebool (b := anyEq x.ap x.ap.length p) 73 false (by kernel_rfl) hb6
                refine go_ 6 0 [] [1, 2, 3, 6, 7, 77, 79] [0] (by kernel_rfl) hI hT ?_
                rintro g hg
                obtain rfl := len0 hg
                clear hg
                refine ⟨[(1, .int .u32 p), (2, .int .u32 q), (3, .pointer (some ⟨g1, 0, none⟩)), (6, .bool false), (7, .bool (mayM x x.vr x.vn p)), (77, .bool false), (79, .bool (mayM x x.vr x.vn p))], [⟨g1, 27, [.int .u8 x.r, .int .u32 x.n, .int .u32 x.item, .int .u32 x.qty, .int .u32 x.price, .int .u8 x.vr, .int .u32 x.vn, .slice A x.ap.length c, .slice B x.re.length d, .int .u8 x.st]⟩], [⟨1, [1, 1, 1, 1, 1, 0, 0], 26⟩], [], [], by kernel_rfl, trivial, ?_⟩
                clear hI hT
                intro a w46 hI hT
                refine bcase (mayM x x.vr x.vn p) ?_ ?_
                · intro hb16
                  replace hT := hT.rebool (b := mayM x x.vr x.vn p) 79 true (by kernel_rfl) hb16
                  refine go_ 7 0 [0] [1, 2, 3, 6, 7, 85] [0] (by kernel_rfl) hI hT ?_
                  rintro g hg
                  obtain rfl := len0 hg
                  clear hg
                  refine ⟨[(1, .int .u32 p), (2, .int .u32 q), (3, .pointer (some ⟨g1, 0, none⟩)), (6, .bool false), (7, .bool (mayM x x.vr x.vn p)), (85, .bool (decide (((x.re.length : Nat) : Int) > 0)))], [⟨g1, 27, [.int .u8 x.r, .int .u32 x.n, .int .u32 x.item, .int .u32 x.qty, .int .u32 x.price, .int .u8 x.vr, .int .u32 x.vn, .slice A x.ap.length c, .slice B x.re.length d, .int .u8 x.st]⟩], [], [.pointer (some ⟨g1, 8, none⟩)], [], by kernel_rfl, trivial, ?_⟩
                  clear hI hT
                  intro a w47 hI hT
                  replace hT := hT.re (u := .bool (decide (((x.re.length : Nat) : Int) > 0))) 85 (.bool false) (by kernel_rfl) (by rw [decide_eq_false (by have := cl_p3 hb16; omega)])
                  exact cutEnd_ ⟨invPick [0] (by kernel_rfl) hI (by kernel_rfl), lessG_ _ hT (by kernel_rfl)⟩
                · intro hb16
                  replace hT := hT.rebool (b := mayM x x.vr x.vn p) 79 false (by kernel_rfl) hb16
                  refine go_ 7 0 [] [1, 2, 3, 6, 7, 85] [0] (by kernel_rfl) hI hT ?_
                  rintro g hg
                  obtain rfl := len0 hg
                  clear hg
                  refine ⟨[(1, .int .u32 p), (2, .int .u32 q), (3, .pointer (some ⟨g1, 0, none⟩)), (6, .bool false), (7, .bool (mayM x x.vr x.vn p)), (85, .bool false)], [⟨g1, 27, [.int .u8 x.r, .int .u32 x.n, .int .u32 x.item, .int .u32 x.qty, .int .u32 x.price, .int .u8 x.vr, .int .u32 x.vn, .slice A x.ap.length c, .slice B x.re.length d, .int .u8 x.st]⟩], [], [], [], by kernel_rfl, trivial, ?_⟩
                  clear hI hT
                  intro a w48 hI hT
                  exact cutEnd_ ⟨invPick [0] (by kernel_rfl) hI (by kernel_rfl), lessG_ _ hT (by kernel_rfl)⟩
              · intro hb15
                replace hT := hT.rebool (b := ((x.ap.length : Nat) : Int) == 1) 70 false (by kernel_rfl) hb15
                have hb15d := ne_of_beq_false' hb15
                refine go_ 9 0 [] [1, 2, 3, 6, 7, 77, 79] [0] (by kernel_rfl) hI hT ?_
                rintro g hg
                obtain rfl := len0 hg
                clear hg
                refine ⟨[(1, .int .u32 p), (2, .int .u32 q), (3, .pointer (some ⟨g1, 0, none⟩)), (6, .bool false), (7, .bool (mayM x x.vr x.vn p)), (77, .bool false), (79, .bool (mayM x x.vr x.vn p))], [⟨g1, 27, [.int .u8 x.r, .int .u32 x.n, .int .u32 x.item, .int .u32 x.qty, .int .u32 x.price, .int .u8 x.vr, .int .u32 x.vn, .slice A x.ap.length c, .slice B x.re.length d, .int .u8 x.st]⟩], [⟨1, [1, 1, 1, 1, 1, 0, 0], 26⟩], [], [], by kernel_rfl, trivial, ?_⟩
                clear hI hT
                intro a w49 hI hT
                refine bcase (mayM x x.vr x.vn p) ?_ ?_
                · intro hb17
                  replace hT := hT.rebool (b := mayM x x.vr x.vn p) 79 true (by kernel_rfl) hb17
                  refine go_ 7 0 [0] [1, 2, 3, 6, 7, 85] [0] (by kernel_rfl) hI hT ?_
                  rintro g hg
                  obtain rfl := len0 hg
                  clear hg
                  refine ⟨[(1, .int .u32 p), (2, .int .u32 q), (3, .pointer (some ⟨g1, 0, none⟩)), (6, .bool false), (7, .bool (mayM x x.vr x.vn p)), (85, .bool (decide (((x.re.length : Nat) : Int) > 0)))], [⟨g1, 27, [.int .u8 x.r, .int .u32 x.n, .int .u32 x.item, .int .u32 x.qty, .int .u32 x.price, .int .u8 x.vr, .int .u32 x.vn, .slice A x.ap.length c, .slice B x.re.length d, .int .u8 x.st]⟩], [], [.pointer (some ⟨g1, 8, none⟩)], [], by kernel_rfl, trivial, ?_⟩
                  clear hI hT
                  intro a w50 hI hT
                  replace hT := hT.re (u := .bool (decide (((x.re.length : Nat) : Int) > 0))) 85 (.bool false) (by kernel_rfl) (by rw [decide_eq_false (by have := cl_p3 hb17; omega)])
                  exact cutEnd_ ⟨invPick [0] (by kernel_rfl) hI (by kernel_rfl), lessG_ _ hT (by kernel_rfl)⟩
                · intro hb17
                  replace hT := hT.rebool (b := mayM x x.vr x.vn p) 79 false (by kernel_rfl) hb17
                  refine go_ 7 0 [] [1, 2, 3, 6, 7, 85] [0] (by kernel_rfl) hI hT ?_
                  rintro g hg
                  obtain rfl := len0 hg
                  clear hg
                  refine ⟨[(1, .int .u32 p), (2, .int .u32 q), (3, .pointer (some ⟨g1, 0, none⟩)), (6, .bool false), (7, .bool (mayM x x.vr x.vn p)), (85, .bool false)], [⟨g1, 27, [.int .u8 x.r, .int .u32 x.n, .int .u32 x.item, .int .u32 x.qty, .int .u32 x.price, .int .u8 x.vr, .int .u32 x.vn, .slice A x.ap.length c, .slice B x.re.length d, .int .u8 x.st]⟩], [], [], [], by kernel_rfl, trivial, ?_⟩
                  clear hI hT
                  intro a w51 hI hT
                  exact cutEnd_ ⟨invPick [0] (by kernel_rfl) hI (by kernel_rfl), lessG_ _ hT (by kernel_rfl)⟩
            · intro hb14
              replace hT := hT.rebool (b := !((mayM x x.vr x.vn p) == (mayM x x.vr x.vn q))) 65 true (by kernel_rfl) (notF hb14)
              refine go_ 21 0 [] [1, 2, 3, 6, 7, 85] [0] (by kernel_rfl) hI hT ?_
              rintro g hg
              obtain rfl := len0 hg
              clear hg
              refine ⟨[(1, .int .u32 p), (2, .int .u32 q), (3, .pointer (some ⟨g1, 0, none⟩)), (6, .bool false), (7, .bool (mayM x x.vr x.vn p)), (85, .bool true)], [⟨g1, 27, [.int .u8 x.r, .int .u32 x.n, .int .u32 x.item, .int .u32 x.qty, .int .u32 x.price, .int .u8 x.vr, .int .u32 x.vn, .slice A x.ap.length c, .slice B x.re.length d, .int .u8 x.st]⟩], [], [], [], by kernel_rfl, trivial, ?_⟩
              clear hI hT
              intro a w52 hI hT
              replace hT := hT.re (u := .bool true) 85 (.bool false) (by kernel_rfl) (by exact absurd (cl_p1 (vr := x.vr) (vn := x.vn) hb6 hb10) (by simpa using hb14))
              exact cutEnd_ ⟨invPick [0] (by kernel_rfl) hI (by kernel_rfl), lessG_ _ hT (by kernel_rfl)⟩
      clear hI hT
      rintro a w53 ⟨hI, hT⟩
      refine go_ 8 0 [0, 0] [2, 3, 6, 7, 87, 89, 90] [0] (by kernel_rfl) hI hT ?_
      rintro g hg
      obtain rfl := len0 hg
      clear hg
      refine ⟨[(2, .int .u32 q), (3, .pointer (some ⟨g1, 0, none⟩)), (6, .bool false), (7, .bool (mayM x x.vr x.vn p)), (87, .agg #[.int .u8 x.r, .int .u32 x.n, .int .u32 x.item, .int .u32 x.qty, .int .u32 x.price, .int .u8 x.vr, .int .u32 x.vn, .slice A x.ap.length c, .slice B x.re.length d, .int .u8 x.st]), (89, .agg #[.int .u8 x.vr, .int .u32 x.vn]), (90, .int .u32 p)], [⟨g1, 27, [.int .u8 x.r, .int .u32 x.n, .int .u32 x.item, .int .u32 x.qty, .int .u32 x.price, .int .u8 x.vr, .int .u32 x.vn, .slice A x.ap.length c, .slice B x.re.length d, .int .u8 x.st]⟩], [⟨1, [1, 1, 1, 1, 1, 1, 0], 4⟩, ⟨0, [1, 1, 1, 1, 1, 1, 1], 0⟩], [.pointer (some ⟨g1, 0, none⟩), .pointer (some ⟨g1, 5, none⟩)], [], by kernel_rfl, trivial, ?_⟩
      clear hI hT
      intro a w54 hI hT
      refine callG_ (some 91) 12 #[.agg #[.int .u8 x.r, .int .u32 x.n, .int .u32 x.item, .int .u32 x.qty, .int .u32 x.price, .int .u8 x.vr, .int .u32 x.vn, .slice A x.ap.length c, .slice B x.re.length d, .int .u8 x.st], .agg #[.int .u8 x.vr, .int .u32 x.vn], .int .u32 p] hT (by kernel_rfl) (claim_any _ [.int .u8 x.r, .int .u32 x.n, .int .u32 x.item, .int .u32 x.qty, .int .u32 x.price, .int .u8 x.vr, .int .u32 x.vn, .slice A x.ap.length c, .slice B x.re.length d, .int .u8 x.st] x x.vr x.vn p _ ⟨A, c, B, d, rfl, (hI.fact 0 rfl), (hI.fact 1 rfl)⟩ (by first | assumption | omega | (dsimp only; omega)) (by first | assumption | omega | (dsimp only; omega))) ?_
      rintro e w55 ⟨cs', rfl, hr, hb⟩
      have hk := Keep.of_below (L := []) hb
      obtain ⟨A2, c3, A4, c5, rfl, hr6, hr7⟩ := hr
      refine ⟨_, rfl, ?_⟩
      have hF1 := hI.got hk hr6
      have hF2 := hI.got hk hr7
      replace hI := ((hI.after hk).add (f := ⟨_, U32s, [.slice A2 (((claimM x x.vr x.vn p).1).ap.length) c3], ((claimM x x.vr x.vn p).1).ap⟩) hF1).add (f := ⟨_, U32s, [.slice A4 (((claimM x x.vr x.vn p).1).re.length) c5], ((claimM x x.vr x.vn p).1).re⟩) hF2
      clear hT
      intro a hT
      refine go_ 9 1 [1] [2, 3, 6, 7, 12, 13] [0, 1] (by kernel_rfl) hI hT ?_
      intro g hg
      obtain ⟨g8, rfl⟩ := len1 hg
      clear hg
      refine ⟨[(2, .int .u32 q), (3, .pointer (some ⟨g1, 0, none⟩)), (6, .bool false), (7, .bool (mayM x x.vr x.vn p)), (12, .pointer (some ⟨g8, 0, none⟩)), (13, .int .i64 ((claimM x x.vr x.vn p).2))], [⟨g1, 27, [.int .u8 x.r, .int .u32 x.n, .int .u32 x.item, .int .u32 x.qty, .int .u32 x.price, .int .u8 x.vr, .int .u32 x.vn, .slice A x.ap.length c, .slice B x.re.length d, .int .u8 x.st]⟩, ⟨g8, 27, [.int .u8 (((claimM x x.vr x.vn p).1).r), .int .u32 (((claimM x x.vr x.vn p).1).n), .int .u32 (((claimM x x.vr x.vn p).1).item), .int .u32 (((claimM x x.vr x.vn p).1).qty), .int .u32 (((claimM x x.vr x.vn p).1).price), .int .u8 (((claimM x x.vr x.vn p).1).vr), .int .u32 (((claimM x x.vr x.vn p).1).vn), .slice A2 (((claimM x x.vr x.vn p).1).ap.length) c3, .slice A4 (((claimM x x.vr x.vn p).1).re.length) c5, .int .u8 (((claimM x x.vr x.vn p).1).st)]⟩], [⟨0, [1, 1, 1, 1, 1, 1, 1, 0, 0], 0⟩, ⟨0, [1, 1, 1, 1, 1, 1, 1, 0, 1], 0⟩, ⟨0, [1, 1, 1, 1, 1, 1, 1, 1], 0⟩], [.pointer (some ⟨g8, 0, none⟩)], [], by kernel_rfl, trivial, ?_⟩
      clear hI hT
      intro a w56 hI hT
      refine cut_ (fun a w' => Inv D w [] [⟨g1, 27, [.int .u8 x.r, .int .u32 x.n, .int .u32 x.item, .int .u32 x.qty, .int .u32 x.price, .int .u8 x.vr, .int .u32 x.vn, .slice A x.ap.length c, .slice B x.re.length d, .int .u8 x.st]⟩, ⟨g8, 27, [.int .u8 (((claimM x x.vr x.vn p).1).r), .int .u32 (((claimM x x.vr x.vn p).1).n), .int .u32 (((claimM x x.vr x.vn p).1).item), .int .u32 (((claimM x x.vr x.vn p).1).qty), .int .u32 (((claimM x x.vr x.vn p).1).price), .int .u8 (((claimM x x.vr x.vn p).1).vr), .int .u32 (((claimM x x.vr x.vn p).1).vn), .slice A2 (((claimM x x.vr x.vn p).1).ap.length) c3, .slice A4 (((claimM x x.vr x.vn p).1).re.length) c5, .int .u8 (((claimM x x.vr x.vn p).1).st)]⟩] ⟨[], [⟨_, U32s, [.slice A4 (((claimM x x.vr x.vn p).1).re.length) c5], ((claimM x x.vr x.vn p).1).re⟩, ⟨_, U32s, [.slice A2 (((claimM x x.vr x.vn p).1).ap.length) c3], ((claimM x x.vr x.vn p).1).ap⟩, ⟨_, U32s, [.slice A x.ap.length c], x.ap⟩, ⟨_, U32s, [.slice B x.re.length d], x.re⟩]⟩ w' ∧ Knows 123 [(2, .int .u32 q), (3, .pointer (some ⟨g1, 0, none⟩)), (6, .bool false), (12, .pointer (some ⟨g8, 0, none⟩)), (13, .int .i64 ((claimM x x.vr x.vn p).2)), (97, .bool false)] a) ?_ ?_
      · refine go_ 6 0 [] [2, 3, 6, 12, 13, 97] [0, 1] (by kernel_rfl) hI hT ?_
        rintro g hg
        obtain rfl := len0 hg
        clear hg
        refine ⟨[(2, .int .u32 q), (3, .pointer (some ⟨g1, 0, none⟩)), (6, .bool false), (12, .pointer (some ⟨g8, 0, none⟩)), (13, .int .i64 ((claimM x x.vr x.vn p).2)), (97, .bool (!((((claimM x x.vr x.vn p).2 : Int) == 0) == (mayM x x.vr x.vn p))))], [⟨g1, 27, [.int .u8 x.r, .int .u32 x.n, .int .u32 x.item, .int .u32 x.qty, .int .u32 x.price, .int .u8 x.vr, .int .u32 x.vn, .slice A x.ap.length c, .slice B x.re.length d, .int .u8 x.st]⟩, ⟨g8, 27, [.int .u8 (((claimM x x.vr x.vn p).1).r), .int .u32 (((claimM x x.vr x.vn p).1).n), .int .u32 (((claimM x x.vr x.vn p).1).item), .int .u32 (((claimM x x.vr x.vn p).1).qty), .int .u32 (((claimM x x.vr x.vn p).1).price), .int .u8 (((claimM x x.vr x.vn p).1).vr), .int .u32 (((claimM x x.vr x.vn p).1).vn), .slice A2 (((claimM x x.vr x.vn p).1).ap.length) c3, .slice A4 (((claimM x x.vr x.vn p).1).re.length) c5, .int .u8 (((claimM x x.vr x.vn p).1).st)]⟩], [], [], [], by kernel_rfl, trivial, ?_⟩
        clear hI hT
        intro a w57 hI hT
        replace hT := hT.re (u := .bool (!((((claimM x x.vr x.vn p).2 : Int) == 0) == (mayM x x.vr x.vn p)))) 97 (.bool false) (by kernel_rfl) (by simp [claimM]; cases mayM x x.vr x.vn p <;> rfl)
        exact cutEnd_ ⟨invPick [0, 1] (by kernel_rfl) hI (by kernel_rfl), lessG_ _ hT (by kernel_rfl)⟩
      clear hI hT
      rintro a w58 ⟨hI, hT⟩
      refine go_ 3 0 [] [2, 3, 6, 12, 13] [0, 1] (by kernel_rfl) hI hT ?_
      rintro g hg
      obtain rfl := len0 hg
      clear hg
      refine ⟨[(2, .int .u32 q), (3, .pointer (some ⟨g1, 0, none⟩)), (6, .bool false), (12, .pointer (some ⟨g8, 0, none⟩)), (13, .int .i64 ((claimM x x.vr x.vn p).2))], [⟨g1, 27, [.int .u8 x.r, .int .u32 x.n, .int .u32 x.item, .int .u32 x.qty, .int .u32 x.price, .int .u8 x.vr, .int .u32 x.vn, .slice A x.ap.length c, .slice B x.re.length d, .int .u8 x.st]⟩, ⟨g8, 27, [.int .u8 (((claimM x x.vr x.vn p).1).r), .int .u32 (((claimM x x.vr x.vn p).1).n), .int .u32 (((claimM x x.vr x.vn p).1).item), .int .u32 (((claimM x x.vr x.vn p).1).qty), .int .u32 (((claimM x x.vr x.vn p).1).price), .int .u8 (((claimM x x.vr x.vn p).1).vr), .int .u32 (((claimM x x.vr x.vn p).1).vn), .slice A2 (((claimM x x.vr x.vn p).1).ap.length) c3, .slice A4 (((claimM x x.vr x.vn p).1).re.length) c5, .int .u8 (((claimM x x.vr x.vn p).1).st)]⟩], [⟨0, [1, 1, 1, 1, 1, 1, 1, 1, 0], 0⟩, ⟨0, [1, 1, 1, 1, 1, 1, 1, 1, 1], 0⟩], [], [], by kernel_rfl, trivial, ?_⟩
      clear hI hT
      intro a w59 hI hT
      refine cut_ (fun a w' => Inv D w [] [] ⟨[], [⟨_, U32s, [.slice A4 (((claimM x x.vr x.vn p).1).re.length) c5], ((claimM x x.vr x.vn p).1).re⟩, ⟨_, U32s, [.slice A2 (((claimM x x.vr x.vn p).1).ap.length) c3], ((claimM x x.vr x.vn p).1).ap⟩, ⟨_, U32s, [.slice A x.ap.length c], x.ap⟩, ⟨_, U32s, [.slice B x.re.length d], x.re⟩]⟩ w' ∧ Knows 123 [(6, .bool true)] a) ?_ ?_
      · refine drawG_ [(0, 2), (1, 2), (2, 2), (3, 2), (4, 1), (5, 2), (6, 2), (8, 2), (10, 2), (7, 1), (9, 1), (11, 0), (12, 2), (13, 2), (14, 2), (15, 1), (17, 1), (16, 0), (18, 0), (19, 2), (20, 2), (21, 2), (22, 2), (23, 0), (24, 2), (25, 2)] [] (by kernel_rfl) (by kernel_rfl) (by kernel_rfl) hI ?_
        clear hI
        intro w60 hI hD
        refine goD_ 3 0 [] [2, 3, 6, 12, 100] (panicOk_cut panicOk_body) hI hD hT ?_
        intro g hg
        obtain rfl := len0 hg
        clear hg
        refine ⟨[(2, .int .u32 q), (3, .pointer (some ⟨g1, 0, none⟩)), (6, .bool false), (12, .pointer (some ⟨g8, 0, none⟩)), (100, .bool (((claimM x x.vr x.vn p).2 : Int) != 0))], [⟨g1, 27, [.int .u8 x.r, .int .u32 x.n, .int .u32 x.item, .int .u32 x.qty, .int .u32 x.price, .int .u8 x.vr, .int .u32 x.vn, .slice A x.ap.length c, .slice B x.re.length d, .int .u8 x.st]⟩, ⟨g8, 27, [.int .u8 (((claimM x x.vr x.vn p).1).r), .int .u32 (((claimM x x.vr x.vn p).1).n), .int .u32 (((claimM x x.vr x.vn p).1).item), .int .u32 (((claimM x x.vr x.vn p).1).qty), .int .u32 (((claimM x x.vr x.vn p).1).price), .int .u8 (((claimM x x.vr x.vn p).1).vr), .int .u32 (((claimM x x.vr x.vn p).1).vn), .slice A2 (((claimM x x.vr x.vn p).1).ap.length) c3, .slice A4 (((claimM x x.vr x.vn p).1).re.length) c5, .int .u8 (((claimM x x.vr x.vn p).1).st)]⟩], [(3, 2), (4, 1), (5, 2), (6, 2), (8, 2), (10, 2), (7, 1), (9, 1), (11, 0), (12, 2), (13, 2), (14, 2), (15, 1), (17, 1), (16, 0), (18, 0), (19, 2), (20, 2), (21, 2), (22, 2), (23, 0), (24, 2), (25, 2)], [], [], by kernel_rfl, trivial, ?_⟩
        clear hI hT hD
        intro a w61 hI hD hT
        refine bcase (((claimM x x.vr x.vn p).2 : Int) != 0) ?_ ?_
        · intro hb18
          replace hT := hT.rebool (b := ((claimM x x.vr x.vn p).2 : Int) != 0) 100 true (by kernel_rfl) hb18
          have hb18d := ne_of_bne_true hb18
          refine goD_ 20 0 [] [6, 120] (panicOk_cut panicOk_body) hI hD hT ?_
          intro g hg
          obtain rfl := len0 hg
          clear hg
          refine ⟨[(6, .bool false), (120, .bool true)], [⟨g1, 27, [.int .u8 x.r, .int .u32 x.n, .int .u32 x.item, .int .u32 x.qty, .int .u32 x.price, .int .u8 x.vr, .int .u32 x.vn, .slice A x.ap.length c, .slice B x.re.length d, .int .u8 x.st]⟩, ⟨g8, 27, [.int .u8 (((claimM x x.vr x.vn p).1).r), .int .u32 (((claimM x x.vr x.vn p).1).n), .int .u32 (((claimM x x.vr x.vn p).1).item), .int .u32 (((claimM x x.vr x.vn p).1).qty), .int .u32 (((claimM x x.vr x.vn p).1).price), .int .u8 (((claimM x x.vr x.vn p).1).vr), .int .u32 (((claimM x x.vr x.vn p).1).vn), .slice A2 (((claimM x x.vr x.vn p).1).ap.length) c3, .slice A4 (((claimM x x.vr x.vn p).1).re.length) c5, .int .u8 (((claimM x x.vr x.vn p).1).st)]⟩], [(23, 0), (24, 2), (25, 2)], [], [], by kernel_rfl, trivial, ?_⟩
          clear hI hT hD
          intro a w62 hI hD hT
          refine callDG_ (some 121) 8 #[] hT hD (by kernel_rfl) (head_any _) ?_
          rintro e w63 ⟨rfl, hb⟩
          have hk := Keep.of_below (L := []) hb
          refine ⟨_, _, rfl, hD.after hk, ?_⟩
          replace hD := hD.after hk
          replace hI := hI.after hk
          clear hT
          intro a hT
          refine goD_ 2 0 [] [6] (panicOk_cut panicOk_body) hI hD hT ?_
          intro g hg
          obtain rfl := len0 hg
          clear hg
          refine ⟨[(6, .bool true)], [⟨g1, 27, [.int .u8 x.r, .int .u32 x.n, .int .u32 x.item, .int .u32 x.qty, .int .u32 x.price, .int .u8 x.vr, .int .u32 x.vn, .slice A x.ap.length c, .slice B x.re.length d, .int .u8 x.st]⟩, ⟨g8, 27, [.int .u8 (((claimM x x.vr x.vn p).1).r), .int .u32 (((claimM x x.vr x.vn p).1).n), .int .u32 (((claimM x x.vr x.vn p).1).item), .int .u32 (((claimM x x.vr x.vn p).1).qty), .int .u32 (((claimM x x.vr x.vn p).1).price), .int .u8 (((claimM x x.vr x.vn p).1).vr), .int .u32 (((claimM x x.vr x.vn p).1).vn), .slice A2 (((claimM x x.vr x.vn p).1).ap.length) c3, .slice A4 (((claimM x x.vr x.vn p).1).re.length) c5, .int .u8 (((claimM x x.vr x.vn p).1).st)]⟩], [], [], [], by kernel_rfl, trivial, ?_⟩
          clear hI hT hD
          intro a w64 hI hD hT
          refine doneD_ ?_
          clear hD
          exact cutEnd_ ⟨invPick [] (by kernel_rfl) hI (by kernel_rfl), lessG_ _ hT (by kernel_rfl)⟩
        · intro hb18
          replace hT := hT.rebool (b := ((claimM x x.vr x.vn p).2 : Int) != 0) 100 false (by kernel_rfl) hb18
          have hb18d := eq_of_bne_false hb18
          refine goD_ 4 0 [1] [2, 3, 6, 12, 100, 104] (panicOk_cut panicOk_body) hI hD hT ?_
          intro g hg
          obtain rfl := len0 hg
          clear hg
          refine ⟨[(2, .int .u32 q), (3, .pointer (some ⟨g1, 0, none⟩)), (6, .bool false), (12, .pointer (some ⟨g8, 0, none⟩)), (100, .bool false), (104, .bool ((((claimM x x.vr x.vn p).1).st : Int) == 2))], [⟨g1, 27, [.int .u8 x.r, .int .u32 x.n, .int .u32 x.item, .int .u32 x.qty, .int .u32 x.price, .int .u8 x.vr, .int .u32 x.vn, .slice A x.ap.length c, .slice B x.re.length d, .int .u8 x.st]⟩, ⟨g8, 27, [.int .u8 (((claimM x x.vr x.vn p).1).r), .int .u32 (((claimM x x.vr x.vn p).1).n), .int .u32 (((claimM x x.vr x.vn p).1).item), .int .u32 (((claimM x x.vr x.vn p).1).qty), .int .u32 (((claimM x x.vr x.vn p).1).price), .int .u8 (((claimM x x.vr x.vn p).1).vr), .int .u32 (((claimM x x.vr x.vn p).1).vn), .slice A2 (((claimM x x.vr x.vn p).1).ap.length) c3, .slice A4 (((claimM x x.vr x.vn p).1).re.length) c5, .int .u8 (((claimM x x.vr x.vn p).1).st)]⟩], [(8, 2), (10, 2), (7, 1), (9, 1), (11, 0), (12, 2), (13, 2), (14, 2), (15, 1), (17, 1), (16, 0), (18, 0), (19, 2), (20, 2), (21, 2), (22, 2), (23, 0), (24, 2), (25, 2)], [.pointer (some ⟨g8, 9, none⟩)], [], by kernel_rfl, trivial, ?_⟩
          clear hI hT hD
          intro a w65 hI hD hT
          refine bcase ((((claimM x x.vr x.vn p).1).st : Int) == 2) ?_ ?_
          · intro hb19
            replace hT := hT.rebool (b := (((claimM x x.vr x.vn p).1).st : Int) == 2) 104 true (by kernel_rfl) hb19
            have hb19d := eq_of_beq hb19
            refine goD_ 4 0 [1, 1] [3, 6, 12, 100, 104, 105, 107, 108] (panicOk_cut panicOk_body) hI hD hT ?_
            intro g hg
            obtain rfl := len0 hg
            clear hg
            refine ⟨[(3, .pointer (some ⟨g1, 0, none⟩)), (6, .bool false), (12, .pointer (some ⟨g8, 0, none⟩)), (100, .bool false), (104, .bool true), (105, .agg #[.int .u8 (((claimM x x.vr x.vn p).1).r), .int .u32 (((claimM x x.vr x.vn p).1).n), .int .u32 (((claimM x x.vr x.vn p).1).item), .int .u32 (((claimM x x.vr x.vn p).1).qty), .int .u32 (((claimM x x.vr x.vn p).1).price), .int .u8 (((claimM x x.vr x.vn p).1).vr), .int .u32 (((claimM x x.vr x.vn p).1).vn), .slice A2 (((claimM x x.vr x.vn p).1).ap.length) c3, .slice A4 (((claimM x x.vr x.vn p).1).re.length) c5, .int .u8 (((claimM x x.vr x.vn p).1).st)]), (107, .agg #[.int .u8 (((claimM x x.vr x.vn p).1).vr), .int .u32 (((claimM x x.vr x.vn p).1).vn)]), (108, .int .u32 q)], [⟨g1, 27, [.int .u8 x.r, .int .u32 x.n, .int .u32 x.item, .int .u32 x.qty, .int .u32 x.price, .int .u8 x.vr, .int .u32 x.vn, .slice A x.ap.length c, .slice B x.re.length d, .int .u8 x.st]⟩, ⟨g8, 27, [.int .u8 (((claimM x x.vr x.vn p).1).r), .int .u32 (((claimM x x.vr x.vn p).1).n), .int .u32 (((claimM x x.vr x.vn p).1).item), .int .u32 (((claimM x x.vr x.vn p).1).qty), .int .u32 (((claimM x x.vr x.vn p).1).price), .int .u8 (((claimM x x.vr x.vn p).1).vr), .int .u32 (((claimM x x.vr x.vn p).1).vn), .slice A2 (((claimM x x.vr x.vn p).1).ap.length) c3, .slice A4 (((claimM x x.vr x.vn p).1).re.length) c5, .int .u8 (((claimM x x.vr x.vn p).1).st)]⟩], [(11, 0), (12, 2), (13, 2), (14, 2), (15, 1), (17, 1), (16, 0), (18, 0), (19, 2), (20, 2), (21, 2), (22, 2), (23, 0), (24, 2), (25, 2)], [.pointer (some ⟨g8, 0, none⟩), .pointer (some ⟨g8, 5, none⟩)], [], by kernel_rfl, trivial, ?_⟩
            clear hI hT hD
            intro a w66 hI hD hT
            refine callDG_ (some 109) 11 #[.agg #[.int .u8 (((claimM x x.vr x.vn p).1).r), .int .u32 (((claimM x x.vr x.vn p).1).n), .int .u32 (((claimM x x.vr x.vn p).1).item), .int .u32 (((claimM x x.vr x.vn p).1).qty), .int .u32 (((claimM x x.vr x.vn p).1).price), .int .u8 (((claimM x x.vr x.vn p).1).vr), .int .u32 (((claimM x x.vr x.vn p).1).vn), .slice A2 (((claimM x x.vr x.vn p).1).ap.length) c3, .slice A4 (((claimM x x.vr x.vn p).1).re.length) c5, .int .u8 (((claimM x x.vr x.vn p).1).st)], .agg #[.int .u8 (((claimM x x.vr x.vn p).1).vr), .int .u32 (((claimM x x.vr x.vn p).1).vn)], .int .u32 q] hT hD (by kernel_rfl) (may_any _ [.int .u8 (((claimM x x.vr x.vn p).1).r), .int .u32 (((claimM x x.vr x.vn p).1).n), .int .u32 (((claimM x x.vr x.vn p).1).item), .int .u32 (((claimM x x.vr x.vn p).1).qty), .int .u32 (((claimM x x.vr x.vn p).1).price), .int .u8 (((claimM x x.vr x.vn p).1).vr), .int .u32 (((claimM x x.vr x.vn p).1).vn), .slice A2 (((claimM x x.vr x.vn p).1).ap.length) c3, .slice A4 (((claimM x x.vr x.vn p).1).re.length) c5, .int .u8 (((claimM x x.vr x.vn p).1).st)] ((claimM x x.vr x.vn p).1) (((claimM x x.vr x.vn p).1).vr) (((claimM x x.vr x.vn p).1).vn) q _ ⟨A2, c3, A4, c5, rfl, (hI.fact 1 rfl), (hI.fact 0 rfl)⟩ (by first | assumption | omega | (dsimp only; omega)) (by first | assumption | omega | (dsimp only; omega))) ?_
            rintro e w67 ⟨rfl, hb⟩
            have hk := Keep.of_below (L := []) hb
            refine ⟨_, _, rfl, hD.after hk, ?_⟩
            replace hD := hD.after hk
            replace hI := hI.after hk
            clear hT
            intro a hT
            refine goD_ 3 0 [] [3, 6, 12, 100, 112] (panicOk_cut panicOk_body) hI hD hT ?_
            intro g hg
            obtain rfl := len0 hg
            clear hg
            refine ⟨[(3, .pointer (some ⟨g1, 0, none⟩)), (6, .bool false), (12, .pointer (some ⟨g8, 0, none⟩)), (100, .bool false), (112, .bool (!(mayM ((claimM x x.vr x.vn p).1) (((claimM x x.vr x.vn p).1).vr) (((claimM x x.vr x.vn p).1).vn) q)))], [⟨g1, 27, [.int .u8 x.r, .int .u32 x.n, .int .u32 x.item, .int .u32 x.qty, .int .u32 x.price, .int .u8 x.vr, .int .u32 x.vn, .slice A x.ap.length c, .slice B x.re.length d, .int .u8 x.st]⟩, ⟨g8, 27, [.int .u8 (((claimM x x.vr x.vn p).1).r), .int .u32 (((claimM x x.vr x.vn p).1).n), .int .u32 (((claimM x x.vr x.vn p).1).item), .int .u32 (((claimM x x.vr x.vn p).1).qty), .int .u32 (((claimM x x.vr x.vn p).1).price), .int .u8 (((claimM x x.vr x.vn p).1).vr), .int .u32 (((claimM x x.vr x.vn p).1).vn), .slice A2 (((claimM x x.vr x.vn p).1).ap.length) c3, .slice A4 (((claimM x x.vr x.vn p).1).re.length) c5, .int .u8 (((claimM x x.vr x.vn p).1).st)]⟩], [(15, 1), (17, 1), (16, 0), (18, 0), (19, 2), (20, 2), (21, 2), (22, 2), (23, 0), (24, 2), (25, 2)], [], [], by kernel_rfl, trivial, ?_⟩
            clear hI hT hD
            intro a w68 hI hD hT
            refine bcase (mayM ((claimM x x.vr x.vn p).1) (((claimM x x.vr x.vn p).1).vr) (((claimM x x.vr x.vn p).1).vn) q) ?_ ?_
            · intro hb20
              replace hT := hT.rebool (b := !(mayM ((claimM x x.vr x.vn p).1) (((claimM x x.vr x.vn p).1).vr) (((claimM x x.vr x.vn p).1).vn) q)) 112 false (by kernel_rfl) (notT hb20)
              refine goD_ 11 0 [] [6] (panicOk_cut panicOk_body) hI hD hT ?_
              intro g hg
              obtain rfl := len0 hg
              clear hg
              refine ⟨[(6, .bool false)], [⟨g1, 27, [.int .u8 x.r, .int .u32 x.n, .int .u32 x.item, .int .u32 x.qty, .int .u32 x.price, .int .u8 x.vr, .int .u32 x.vn, .slice A x.ap.length c, .slice B x.re.length d, .int .u8 x.st]⟩, ⟨g8, 27, [.int .u8 (((claimM x x.vr x.vn p).1).r), .int .u32 (((claimM x x.vr x.vn p).1).n), .int .u32 (((claimM x x.vr x.vn p).1).item), .int .u32 (((claimM x x.vr x.vn p).1).qty), .int .u32 (((claimM x x.vr x.vn p).1).price), .int .u8 (((claimM x x.vr x.vn p).1).vr), .int .u32 (((claimM x x.vr x.vn p).1).vn), .slice A2 (((claimM x x.vr x.vn p).1).ap.length) c3, .slice A4 (((claimM x x.vr x.vn p).1).re.length) c5, .int .u8 (((claimM x x.vr x.vn p).1).st)]⟩], [], [], [], by kernel_rfl, trivial, ?_⟩
              clear hI hT hD
              intro a w69 hI hD hT
              refine doneD_ ?_
              clear hD
              replace hT := hT.re (u := .bool false) 6 (.bool true) (by kernel_rfl) (by obtain ⟨c1, c2, c3, c4, c5⟩ := claim_len x x.vr x.vn p; simp_all [mayM])
              exact cutEnd_ ⟨invPick [] (by kernel_rfl) hI (by kernel_rfl), lessG_ _ hT (by kernel_rfl)⟩
            · intro hb20
              replace hT := hT.rebool (b := !(mayM ((claimM x x.vr x.vn p).1) (((claimM x x.vr x.vn p).1).vr) (((claimM x x.vr x.vn p).1).vn) q)) 112 true (by kernel_rfl) (notF hb20)
              refine goD_ 2 0 [1, 0] [6, 100, 112, 113, 115] (panicOk_cut panicOk_body) hI hD hT ?_
              intro g hg
              obtain rfl := len0 hg
              clear hg
              refine ⟨[(6, .bool false), (100, .bool false), (112, .bool true), (113, .agg #[.int .u8 (((claimM x x.vr x.vn p).1).r), .int .u32 (((claimM x x.vr x.vn p).1).n), .int .u32 (((claimM x x.vr x.vn p).1).item), .int .u32 (((claimM x x.vr x.vn p).1).qty), .int .u32 (((claimM x x.vr x.vn p).1).price), .int .u8 (((claimM x x.vr x.vn p).1).vr), .int .u32 (((claimM x x.vr x.vn p).1).vn), .slice A2 (((claimM x x.vr x.vn p).1).ap.length) c3, .slice A4 (((claimM x x.vr x.vn p).1).re.length) c5, .int .u8 (((claimM x x.vr x.vn p).1).st)]), (115, .agg #[.int .u8 x.r, .int .u32 x.n, .int .u32 x.item, .int .u32 x.qty, .int .u32 x.price, .int .u8 x.vr, .int .u32 x.vn, .slice A x.ap.length c, .slice B x.re.length d, .int .u8 x.st])], [⟨g1, 27, [.int .u8 x.r, .int .u32 x.n, .int .u32 x.item, .int .u32 x.qty, .int .u32 x.price, .int .u8 x.vr, .int .u32 x.vn, .slice A x.ap.length c, .slice B x.re.length d, .int .u8 x.st]⟩, ⟨g8, 27, [.int .u8 (((claimM x x.vr x.vn p).1).r), .int .u32 (((claimM x x.vr x.vn p).1).n), .int .u32 (((claimM x x.vr x.vn p).1).item), .int .u32 (((claimM x x.vr x.vn p).1).qty), .int .u32 (((claimM x x.vr x.vn p).1).price), .int .u8 (((claimM x x.vr x.vn p).1).vr), .int .u32 (((claimM x x.vr x.vn p).1).vn), .slice A2 (((claimM x x.vr x.vn p).1).ap.length) c3, .slice A4 (((claimM x x.vr x.vn p).1).re.length) c5, .int .u8 (((claimM x x.vr x.vn p).1).st)]⟩], [(16, 0), (18, 0), (19, 2), (20, 2), (21, 2), (22, 2), (23, 0), (24, 2), (25, 2)], [.pointer (some ⟨g8, 0, none⟩), .pointer (some ⟨g1, 0, none⟩)], [], by kernel_rfl, trivial, ?_⟩
              clear hI hT hD
              intro a w70 hI hD hT
              refine callDG_ (some 114) 13 #[.agg #[.int .u8 (((claimM x x.vr x.vn p).1).r), .int .u32 (((claimM x x.vr x.vn p).1).n), .int .u32 (((claimM x x.vr x.vn p).1).item), .int .u32 (((claimM x x.vr x.vn p).1).qty), .int .u32 (((claimM x x.vr x.vn p).1).price), .int .u8 (((claimM x x.vr x.vn p).1).vr), .int .u32 (((claimM x x.vr x.vn p).1).vn), .slice A2 (((claimM x x.vr x.vn p).1).ap.length) c3, .slice A4 (((claimM x x.vr x.vn p).1).re.length) c5, .int .u8 (((claimM x x.vr x.vn p).1).st)]] hT hD (by kernel_rfl) (total_any _ [.int .u8 (((claimM x x.vr x.vn p).1).r), .int .u32 (((claimM x x.vr x.vn p).1).n), .int .u32 (((claimM x x.vr x.vn p).1).item), .int .u32 (((claimM x x.vr x.vn p).1).qty), .int .u32 (((claimM x x.vr x.vn p).1).price), .int .u8 (((claimM x x.vr x.vn p).1).vr), .int .u32 (((claimM x x.vr x.vn p).1).vn), .slice A2 (((claimM x x.vr x.vn p).1).ap.length) c3, .slice A4 (((claimM x x.vr x.vn p).1).re.length) c5, .int .u8 (((claimM x x.vr x.vn p).1).st)] ((claimM x x.vr x.vn p).1) _ ⟨A2, c3, A4, c5, rfl, (hI.fact 1 rfl), (hI.fact 0 rfl)⟩) ?_
              rintro e w71 ⟨rfl, hb⟩
              have hk := Keep.of_below (L := []) hb
              refine ⟨_, _, rfl, hD.after hk, ?_⟩
              replace hD := hD.after hk
              replace hI := hI.after hk
              clear hT
              intro a hT
              refine callDG_ (some 116) 13 #[.agg #[.int .u8 x.r, .int .u32 x.n, .int .u32 x.item, .int .u32 x.qty, .int .u32 x.price, .int .u8 x.vr, .int .u32 x.vn, .slice A x.ap.length c, .slice B x.re.length d, .int .u8 x.st]] hT hD (by kernel_rfl) (total_any _ [.int .u8 x.r, .int .u32 x.n, .int .u32 x.item, .int .u32 x.qty, .int .u32 x.price, .int .u8 x.vr, .int .u32 x.vn, .slice A x.ap.length c, .slice B x.re.length d, .int .u8 x.st] x _ ⟨A, c, B, d, rfl, (hI.fact 2 rfl), (hI.fact 3 rfl)⟩) ?_
              rintro e w72 ⟨rfl, hb⟩
              have hk := Keep.of_below (L := []) hb
              refine ⟨_, _, rfl, hD.after hk, ?_⟩
              replace hD := hD.after hk
              replace hI := hI.after hk
              clear hT
              intro a hT
              refine goD_ 4 0 [] [6, 120] (panicOk_cut panicOk_body) hI hD hT ?_
              intro g hg
              obtain rfl := len0 hg
              clear hg
              refine ⟨[(6, .bool false), (120, .bool ((IntKind.u64.wrap (IntKind.u64.wrap ((claimM x x.vr x.vn p).1).qty * IntKind.u64.wrap ((claimM x x.vr x.vn p).1).price) : Int) == IntKind.u64.wrap (IntKind.u64.wrap x.qty * IntKind.u64.wrap x.price)))], [⟨g1, 27, [.int .u8 x.r, .int .u32 x.n, .int .u32 x.item, .int .u32 x.qty, .int .u32 x.price, .int .u8 x.vr, .int .u32 x.vn, .slice A x.ap.length c, .slice B x.re.length d, .int .u8 x.st]⟩, ⟨g8, 27, [.int .u8 (((claimM x x.vr x.vn p).1).r), .int .u32 (((claimM x x.vr x.vn p).1).n), .int .u32 (((claimM x x.vr x.vn p).1).item), .int .u32 (((claimM x x.vr x.vn p).1).qty), .int .u32 (((claimM x x.vr x.vn p).1).price), .int .u8 (((claimM x x.vr x.vn p).1).vr), .int .u32 (((claimM x x.vr x.vn p).1).vn), .slice A2 (((claimM x x.vr x.vn p).1).ap.length) c3, .slice A4 (((claimM x x.vr x.vn p).1).re.length) c5, .int .u8 (((claimM x x.vr x.vn p).1).st)]⟩], [(23, 0), (24, 2), (25, 2)], [], [], by kernel_rfl, trivial, ?_⟩
              clear hI hT hD
              intro a w73 hI hD hT
              refine bcase ((IntKind.u64.wrap (IntKind.u64.wrap ((claimM x x.vr x.vn p).1).qty * IntKind.u64.wrap ((claimM x x.vr x.vn p).1).price) : Int) == IntKind.u64.wrap (IntKind.u64.wrap x.qty * IntKind.u64.wrap x.price)) ?_ ?_
              · intro hb21
                replace hT := hT.rebool (b := (IntKind.u64.wrap (IntKind.u64.wrap ((claimM x x.vr x.vn p).1).qty * IntKind.u64.wrap ((claimM x x.vr x.vn p).1).price) : Int) == IntKind.u64.wrap (IntKind.u64.wrap x.qty * IntKind.u64.wrap x.price)) 120 true (by kernel_rfl) hb21
                have hb21d := eq_of_beq hb21
                refine callDG_ (some 121) 8 #[] hT hD (by kernel_rfl) (head_any _) ?_
                rintro e w74 ⟨rfl, hb⟩
                have hk := Keep.of_below (L := []) hb
                refine ⟨_, _, rfl, hD.after hk, ?_⟩
                replace hD := hD.after hk
                replace hI := hI.after hk
                clear hT
                intro a hT
                refine goD_ 2 0 [] [6] (panicOk_cut panicOk_body) hI hD hT ?_
                intro g hg
                obtain rfl := len0 hg
                clear hg
                refine ⟨[(6, .bool true)], [⟨g1, 27, [.int .u8 x.r, .int .u32 x.n, .int .u32 x.item, .int .u32 x.qty, .int .u32 x.price, .int .u8 x.vr, .int .u32 x.vn, .slice A x.ap.length c, .slice B x.re.length d, .int .u8 x.st]⟩, ⟨g8, 27, [.int .u8 (((claimM x x.vr x.vn p).1).r), .int .u32 (((claimM x x.vr x.vn p).1).n), .int .u32 (((claimM x x.vr x.vn p).1).item), .int .u32 (((claimM x x.vr x.vn p).1).qty), .int .u32 (((claimM x x.vr x.vn p).1).price), .int .u8 (((claimM x x.vr x.vn p).1).vr), .int .u32 (((claimM x x.vr x.vn p).1).vn), .slice A2 (((claimM x x.vr x.vn p).1).ap.length) c3, .slice A4 (((claimM x x.vr x.vn p).1).re.length) c5, .int .u8 (((claimM x x.vr x.vn p).1).st)]⟩], [], [], [], by kernel_rfl, trivial, ?_⟩
                clear hI hT hD
                intro a w75 hI hD hT
                refine doneD_ ?_
                clear hD
                exact cutEnd_ ⟨invPick [] (by kernel_rfl) hI (by kernel_rfl), lessG_ _ hT (by kernel_rfl)⟩
              · intro hb21
                replace hT := hT.rebool (b := (IntKind.u64.wrap (IntKind.u64.wrap ((claimM x x.vr x.vn p).1).qty * IntKind.u64.wrap ((claimM x x.vr x.vn p).1).price) : Int) == IntKind.u64.wrap (IntKind.u64.wrap x.qty * IntKind.u64.wrap x.price)) 120 false (by kernel_rfl) hb21
                have hb21d := ne_of_beq_false' hb21
                refine goD_ 3 0 [] [6] (panicOk_cut panicOk_body) hI hD hT ?_
                intro g hg
                obtain rfl := len0 hg
                clear hg
                refine ⟨[(6, .bool false)], [⟨g1, 27, [.int .u8 x.r, .int .u32 x.n, .int .u32 x.item, .int .u32 x.qty, .int .u32 x.price, .int .u8 x.vr, .int .u32 x.vn, .slice A x.ap.length c, .slice B x.re.length d, .int .u8 x.st]⟩, ⟨g8, 27, [.int .u8 (((claimM x x.vr x.vn p).1).r), .int .u32 (((claimM x x.vr x.vn p).1).n), .int .u32 (((claimM x x.vr x.vn p).1).item), .int .u32 (((claimM x x.vr x.vn p).1).qty), .int .u32 (((claimM x x.vr x.vn p).1).price), .int .u8 (((claimM x x.vr x.vn p).1).vr), .int .u32 (((claimM x x.vr x.vn p).1).vn), .slice A2 (((claimM x x.vr x.vn p).1).ap.length) c3, .slice A4 (((claimM x x.vr x.vn p).1).re.length) c5, .int .u8 (((claimM x x.vr x.vn p).1).st)]⟩], [], [], [], by kernel_rfl, trivial, ?_⟩
                clear hI hT hD
                intro a w76 hI hD hT
                refine doneD_ ?_
                clear hD
                replace hT := hT.re (u := .bool false) 6 (.bool true) (by kernel_rfl) (by obtain ⟨c1, c2, c3, c4, c5⟩ := claim_len x x.vr x.vn p; simp_all [mayM])
                exact cutEnd_ ⟨invPick [] (by kernel_rfl) hI (by kernel_rfl), lessG_ _ hT (by kernel_rfl)⟩
          · intro hb19
            replace hT := hT.rebool (b := (((claimM x x.vr x.vn p).1).st : Int) == 2) 104 false (by kernel_rfl) hb19
            have hb19d := ne_of_beq_false' hb19
            refine goD_ 19 0 [] [6] (panicOk_cut panicOk_body) hI hD hT ?_
            intro g hg
            obtain rfl := len0 hg
            clear hg
            refine ⟨[(6, .bool false)], [⟨g1, 27, [.int .u8 x.r, .int .u32 x.n, .int .u32 x.item, .int .u32 x.qty, .int .u32 x.price, .int .u8 x.vr, .int .u32 x.vn, .slice A x.ap.length c, .slice B x.re.length d, .int .u8 x.st]⟩, ⟨g8, 27, [.int .u8 (((claimM x x.vr x.vn p).1).r), .int .u32 (((claimM x x.vr x.vn p).1).n), .int .u32 (((claimM x x.vr x.vn p).1).item), .int .u32 (((claimM x x.vr x.vn p).1).qty), .int .u32 (((claimM x x.vr x.vn p).1).price), .int .u8 (((claimM x x.vr x.vn p).1).vr), .int .u32 (((claimM x x.vr x.vn p).1).vn), .slice A2 (((claimM x x.vr x.vn p).1).ap.length) c3, .slice A4 (((claimM x x.vr x.vn p).1).re.length) c5, .int .u8 (((claimM x x.vr x.vn p).1).st)]⟩], [], [], [], by kernel_rfl, trivial, ?_⟩
            clear hI hT hD
            intro a w77 hI hD hT
            refine doneD_ ?_
            clear hD
            replace hT := hT.re (u := .bool false) 6 (.bool true) (by kernel_rfl) (by obtain ⟨c1, c2, c3, c4, c5⟩ := claim_len x x.vr x.vn p; simp_all [mayM])
            exact cutEnd_ ⟨invPick [] (by kernel_rfl) hI (by kernel_rfl), lessG_ _ hT (by kernel_rfl)⟩
      clear hI hT
      rintro a w78 ⟨hI, hT⟩
      refine ret_ [] (rs := [.tmp 6]) (vs := [.bool true]) (l := []) hI hT (by kernel_rfl) (by kernel_rfl) (by kernel_rfl) (by kernel_rfl) ?_
      exact ⟨rfl, hI.keep.below⟩

end Go.Proofs.Ytfdgflhbooaomaa
