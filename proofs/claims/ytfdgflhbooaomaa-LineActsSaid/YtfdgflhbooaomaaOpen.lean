/- openers: Claim, Line, Op; the frame of a row -/
import Derived.Test.YtfdgflhbooaomaaFrame
import Derived.Test.YtfdgflhbooaomaaLawS
namespace Go.Proofs.Ytfdgflhbooaomaa
open Go.ChangeShapes Go.WideShapes Go.ChangeAt Go.RowKit

theorem u32s_opn : Opn Try.prog U32s 25 (fun l => l.length ≤ maxLen ∧ ∀ x ∈ l, (Lit.int .u32 x).wf = true) := Opn.slice Try.underlying25 (by kernel_rfl) (Opn.int Try.underlying22 (by kernel_rfl))
theorem claim_flat : flatOf Try.prog 6 95 = some [5, 22, 5, 22] := by kernel_rfl
theorem claim_opn : Opn Try.prog ClaimR 95 (fun x => True) := by
  refine ⟨by kernel_rfl, fun {H enc w fuel cs x} hx => ?_⟩
  have h := flat_opens 6 _ _ claim_flat _ _ _ hx
  match cs, h with
  | [c0, c1, c2, c3], ⟨l0, l1, l2, l3, _⟩ =>
    obtain ⟨v0, rfl, w0⟩ := l0.int (k := .u8) Try.underlying5
    obtain ⟨v1, rfl, w1⟩ := l1.int (k := .u32) Try.underlying22
    obtain ⟨v2, rfl, w2⟩ := l2.int (k := .u8) Try.underlying5
    obtain ⟨v3, rfl, w3⟩ := l3.int (k := .u32) Try.underlying22
    exact ⟨⟨v0, v1, v2, v3⟩, rfl, trivial⟩

theorem claims_opn : Opn Try.prog ClaimR.slice 31 (fun l => l.length ≤ maxLen ∧ ∀ x ∈ l, True) := Opn.slice Try.underlying31 (by kernel_rfl) claim_opn
theorem line_flat : flatOf Try.prog 6 27 = some [5, 22, 22, 22, 22, 5, 22, 25, 25, 5] := by kernel_rfl
theorem line_opn : Opn Try.prog LineR 27 (fun x => x.ap.length ≤ maxLen ∧ x.re.length ≤ maxLen) := by
  refine ⟨by kernel_rfl, fun {H enc w fuel cs x} hx => ?_⟩
  have h := flat_opens 6 _ _ line_flat _ _ _ hx
  match cs, h with
  | [c0, c1, c2, c3, c4, c5, c6, c7, c8, c9], ⟨l0, l1, l2, l3, l4, l5, l6, l7, l8, l9, _⟩ =>
    obtain ⟨v0, rfl, w0⟩ := l0.int (k := .u8) Try.underlying5
    obtain ⟨v1, rfl, w1⟩ := l1.int (k := .u32) Try.underlying22
    obtain ⟨v2, rfl, w2⟩ := l2.int (k := .u32) Try.underlying22
    obtain ⟨v3, rfl, w3⟩ := l3.int (k := .u32) Try.underlying22
    obtain ⟨v4, rfl, w4⟩ := l4.int (k := .u32) Try.underlying22
    obtain ⟨v5, rfl, w5⟩ := l5.int (k := .u8) Try.underlying5
    obtain ⟨v6, rfl, w6⟩ := l6.int (k := .u32) Try.underlying22
    obtain ⟨fu7, y7, k7⟩ := l7
    obtain ⟨v7, r7, b7⟩ := (u32s_opn).opens k7
    obtain ⟨A7, d7, _, e7, _⟩ := id r7
    obtain rfl : c7 = _ := by simpa using e7
    obtain ⟨fu8, y8, k8⟩ := l8
    obtain ⟨v8, r8, b8⟩ := (u32s_opn).opens k8
    obtain ⟨A8, d8, _, e8, _⟩ := id r8
    obtain rfl : c8 = _ := by simpa using e8
    obtain ⟨v9, rfl, w9⟩ := l9.int (k := .u8) Try.underlying5
    exact ⟨⟨v0, v1, v2, v3, v4, v5, v6, v7, v8, v9⟩, ⟨A7, d7, A8, d8, rfl, r7, r8⟩, b7.1, b8.1⟩

theorem op_flat : flatOf Try.prog 6 33 = some [5, 22, 22, 22, 22, 22, 22, 22, 22, 22, 30, 22, 5, 22, 5, 5, 22, 22, 5, 5, 30, 5, 22, 5, 22, 22, 22, 22, 31] := by kernel_rfl
theorem op_opn : Opn Try.prog OpR 33 (fun x => x.lines.length ≤ maxLen) := by
  refine ⟨by kernel_rfl, fun {H enc w fuel cs x} hx => ?_⟩
  have h := flat_opens 6 _ _ op_flat _ _ _ hx
  match cs, h with
  | [c0, c1, c2, c3, c4, c5, c6, c7, c8, c9, c10, c11, c12, c13, c14, c15, c16, c17, c18, c19, c20, c21, c22, c23, c24, c25, c26, c27, c28], ⟨l0, l1, l2, l3, l4, l5, l6, l7, l8, l9, l10, l11, l12, l13, l14, l15, l16, l17, l18, l19, l20, l21, l22, l23, l24, l25, l26, l27, l28, _⟩ =>
    obtain ⟨v0, rfl, w0⟩ := l0.int (k := .u8) Try.underlying5
    obtain ⟨v1, rfl, w1⟩ := l1.int (k := .u32) Try.underlying22
    obtain ⟨v2, rfl, w2⟩ := l2.int (k := .u32) Try.underlying22
    obtain ⟨v3, rfl, w3⟩ := l3.int (k := .u32) Try.underlying22
    obtain ⟨v4, rfl, w4⟩ := l4.int (k := .u32) Try.underlying22
    obtain ⟨v5, rfl, w5⟩ := l5.int (k := .u32) Try.underlying22
    obtain ⟨v6, rfl, w6⟩ := l6.int (k := .u32) Try.underlying22
    obtain ⟨v7, rfl, w7⟩ := l7.int (k := .u32) Try.underlying22
    obtain ⟨v8, rfl, w8⟩ := l8.int (k := .u32) Try.underlying22
    obtain ⟨v9, rfl, w9⟩ := l9.int (k := .u32) Try.underlying22
    obtain ⟨v10, rfl, w10⟩ := l10.int (k := .u64) Try.underlying30
    obtain ⟨v11, rfl, w11⟩ := l11.int (k := .u32) Try.underlying22
    obtain ⟨v12, rfl, w12⟩ := l12.int (k := .u8) Try.underlying5
    obtain ⟨v13, rfl, w13⟩ := l13.int (k := .u32) Try.underlying22
    obtain ⟨v14, rfl, w14⟩ := l14.int (k := .u8) Try.underlying5
    obtain ⟨v15, rfl, w15⟩ := l15.int (k := .u8) Try.underlying5
    obtain ⟨v16, rfl, w16⟩ := l16.int (k := .u32) Try.underlying22
    obtain ⟨v17, rfl, w17⟩ := l17.int (k := .u32) Try.underlying22
    obtain ⟨v18, rfl, w18⟩ := l18.int (k := .u8) Try.underlying5
    obtain ⟨v19, rfl, w19⟩ := l19.int (k := .u8) Try.underlying5
    obtain ⟨v20, rfl, w20⟩ := l20.int (k := .u64) Try.underlying30
    obtain ⟨v21, rfl, w21⟩ := l21.int (k := .u8) Try.underlying5
    obtain ⟨v22, rfl, w22⟩ := l22.int (k := .u32) Try.underlying22
    obtain ⟨v23, rfl, w23⟩ := l23.int (k := .u8) Try.underlying5
    obtain ⟨v24, rfl, w24⟩ := l24.int (k := .u32) Try.underlying22
    obtain ⟨v25, rfl, w25⟩ := l25.int (k := .u32) Try.underlying22
    obtain ⟨v26, rfl, w26⟩ := l26.int (k := .u32) Try.underlying22
    obtain ⟨v27, rfl, w27⟩ := l27.int (k := .u32) Try.underlying22
    obtain ⟨fu28, y28, k28⟩ := l28
    obtain ⟨v28, r28, b28⟩ := (claims_opn).opens k28
    obtain ⟨A28, d28, _, e28, _⟩ := id r28
    obtain rfl : c28 = _ := by simpa using e28
    exact ⟨⟨v0, v1, v2, v3, v4, v5, v6, v7, v8, v9, v10, v11, v12, v13, v14, v15, v16, v17, v18, v19, v20, v21, v22, v23, v24, v25, v26, v27, v28⟩, ⟨A28, d28, rfl, r28⟩, b28.1⟩


theorem Try.own : ownKnob Try.prog.godebug = none := by kernel_rfl
theorem Try.laidOut : laidOutB Try.prog = true := by kernel_rfl

end Go.Proofs.Ytfdgflhbooaomaa
