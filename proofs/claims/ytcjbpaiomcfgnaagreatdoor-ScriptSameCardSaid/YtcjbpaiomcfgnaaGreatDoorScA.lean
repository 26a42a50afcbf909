/- ScriptSame: what comes in, as data (printed by gen_sca.py). -/
import Derived.Test.YtcjbpaiomcfgnaaGreatDoorScF
import Derived.Test.YtcjbpaiomcfgnaaGreatDoorGf
namespace Go.Proofs.YtcjbpaiomcfgnaaGreatDoor
open Go Go.ChangeShapes Go.WideShapes Go.ChangeAt Go.RowKit
theorem act_flat : flatOf Tryz.prog 6 47 = some [5, 5, 3, 5, 39, 5, 39, 5, 39, 39, 5, 5, 42, 5, 39, 5, 39, 39, 39, 39, 43, 5, 39] := by kernel_rfl
theorem act_noArr : noArr Tryz.prog 6 47 = true := by kernel_rfl
theorem claim_flat : flatOf Tryz.prog 6 89 = some [5, 39, 5, 39] := by kernel_rfl
theorem claim_ts : flatTs Tryz.prog 8 89 = some [5, 39, 5, 39] := by kernel_rfl
theorem claim_size : (Tryz.prog.info? 89).map (·.size) = some 4 := by kernel_rfl
theorem claim_int : [5, 39, 5, 39].all (isIntT Tryz.prog) = true := by kernel_rfl
theorem claim_bytes : 0 < Tryz.prog.bytesOf 89 := of_decide_eq_true (by kernel_rfl)
theorem all2_nilW {α β : Type} {R : α → β → Prop} {cs : List α} (h : All2 R cs []) : cs = [] := by
 cases cs with
 | nil => rfl
 | cons _ _ => exact h.elim
theorem all2_consW {α β : Type} {R : α → β → Prop} {cs : List α} {t : β} {ts : List β} (h : All2 R cs (t :: ts)) : ∃ c cs', cs = c :: cs' ∧ R c t ∧ All2 R cs' ts := by
 cases cs with
 | nil => exact h.elim
 | cons c cs => exact ⟨c, cs, rfl, h.1, h.2⟩
section
variable {H : Type} {enc : TypeId × Value → H} {w : World} {B : Nat}
theorem int_in {c : Value} {t : TypeId} {k : IntKind} (ht : Tryz.prog.underlying t = some (.int k)) (h : LeafW enc Tryz.prog w B c t) : ∃ n, c = .int k n ∧ k.wrap n = n := by
 obtain ⟨n, e, hw⟩ := Leaf.int h.leaf ht
 simp only [Lit.wf, Bool.and_eq_true, decide_eq_true_eq] at hw
 exact ⟨n, e, wrap_in hw.1 hw.2⟩
theorem act_in {cs : List Value} (h : All2 (LeafW enc Tryz.prog w B) cs [5, 5, 3, 5, 39, 5, 39, 5, 39, 39, 5, 5, 42, 5, 39, 5, 39, 39, 39, 39, 43, 5, 39]) : ∃ (n0 n1 n2 n3 n4 n5 n6 n7 n8 n9 n10 n11 n12 n13 n14 n15 n16 n17 n18 n19 n21 n22 : Int) (c : Value) (xs : List Dat), cs = [.int .u8 n0, .int .u8 n1, .int .i64 n2, .int .u8 n3, .int .u32 n4, .int .u8 n5, .int .u32 n6, .int .u8 n7, .int .u32 n8, .int .u32 n9, .int .u8 n10, .int .u8 n11, .int .u64 n12, .int .u8 n13, .int .u32 n14, .int .u8 n15, .int .u32 n16, .int .u32 n17, .int .u32 n18, .int .u32 n19, c, .int .u8 n21, .int .u32 n22] ∧ IntKind.u8.wrap n0 = n0 ∧ IntKind.u8.wrap n1 = n1 ∧ IntKind.i64.wrap n2 = n2 ∧ IntKind.u8.wrap n3 = n3 ∧ IntKind.u32.wrap n4 = n4 ∧ IntKind.u8.wrap n5 = n5 ∧ IntKind.u32.wrap n6 = n6 ∧ IntKind.u8.wrap n7 = n7 ∧ IntKind.u32.wrap n8 = n8 ∧ IntKind.u32.wrap n9 = n9 ∧ IntKind.u8.wrap n10 = n10 ∧ IntKind.u8.wrap n11 = n11 ∧ IntKind.u64.wrap n12 = n12 ∧ IntKind.u8.wrap n13 = n13 ∧ IntKind.u32.wrap n14 = n14 ∧ IntKind.u8.wrap n15 = n15 ∧ IntKind.u32.wrap n16 = n16 ∧ IntKind.u32.wrap n17 = n17 ∧ IntKind.u32.wrap n18 = n18 ∧ IntKind.u32.wrap n19 = n19 ∧ IntKind.u8.wrap n21 = n21 ∧ IntKind.u32.wrap n22 = n22 ∧ DatOk Tryz.prog (fun g => w.heap[g]?) (.r 89 c xs) ∧ c.oneCell' = true ∧ xs.length ≤ B := by
 obtain ⟨c0, r0, e0, l0, h0⟩ := all2_consW h
 obtain ⟨c1, r1, e1, l1, h1⟩ := all2_consW h0
 obtain ⟨c2, r2, e2, l2, h2⟩ := all2_consW h1
 obtain ⟨c3, r3, e3, l3, h3⟩ := all2_consW h2
 obtain ⟨c4, r4, e4, l4, h4⟩ := all2_consW h3
 obtain ⟨c5, r5, e5, l5, h5⟩ := all2_consW h4
 obtain ⟨c6, r6, e6, l6, h6⟩ := all2_consW h5
 obtain ⟨c7, r7, e7, l7, h7⟩ := all2_consW h6
 obtain ⟨c8, r8, e8, l8, h8⟩ := all2_consW h7
 obtain ⟨c9, r9, e9, l9, h9⟩ := all2_consW h8
 obtain ⟨c10, r10, e10, l10, h10⟩ := all2_consW h9
 obtain ⟨c11, r11, e11, l11, h11⟩ := all2_consW h10
 obtain ⟨c12, r12, e12, l12, h12⟩ := all2_consW h11
 obtain ⟨c13, r13, e13, l13, h13⟩ := all2_consW h12
 obtain ⟨c14, r14, e14, l14, h14⟩ := all2_consW h13
 obtain ⟨c15, r15, e15, l15, h15⟩ := all2_consW h14
 obtain ⟨c16, r16, e16, l16, h16⟩ := all2_consW h15
 obtain ⟨c17, r17, e17, l17, h17⟩ := all2_consW h16
 obtain ⟨c18, r18, e18, l18, h18⟩ := all2_consW h17
 obtain ⟨c19, r19, e19, l19, h19⟩ := all2_consW h18
 obtain ⟨c20, r20, e20, l20, h20⟩ := all2_consW h19
 obtain ⟨c21, r21, e21, l21, h21⟩ := all2_consW h20
 obtain ⟨c22, r22, e22, l22, h22⟩ := all2_consW h21
 have h22 := all2_nilW h22
 obtain ⟨n0, f0, w0⟩ := int_in Tryz.underlying5 l0
 obtain ⟨n1, f1, w1⟩ := int_in Tryz.underlying5 l1
 obtain ⟨n2, f2, w2⟩ := int_in Tryz.underlying3 l2
 obtain ⟨n3, f3, w3⟩ := int_in Tryz.underlying5 l3
 obtain ⟨n4, f4, w4⟩ := int_in Tryz.underlying39 l4
 obtain ⟨n5, f5, w5⟩ := int_in Tryz.underlying5 l5
 obtain ⟨n6, f6, w6⟩ := int_in Tryz.underlying39 l6
 obtain ⟨n7, f7, w7⟩ := int_in Tryz.underlying5 l7
 obtain ⟨n8, f8, w8⟩ := int_in Tryz.underlying39 l8
 obtain ⟨n9, f9, w9⟩ := int_in Tryz.underlying39 l9
 obtain ⟨n10, f10, w10⟩ := int_in Tryz.underlying5 l10
 obtain ⟨n11, f11, w11⟩ := int_in Tryz.underlying5 l11
 obtain ⟨n12, f12, w12⟩ := int_in Tryz.underlying42 l12
 obtain ⟨n13, f13, w13⟩ := int_in Tryz.underlying5 l13
 obtain ⟨n14, f14, w14⟩ := int_in Tryz.underlying39 l14
 obtain ⟨n15, f15, w15⟩ := int_in Tryz.underlying5 l15
 obtain ⟨n16, f16, w16⟩ := int_in Tryz.underlying39 l16
 obtain ⟨n17, f17, w17⟩ := int_in Tryz.underlying39 l17
 obtain ⟨n18, f18, w18⟩ := int_in Tryz.underlying39 l18
 obtain ⟨n19, f19, w19⟩ := int_in Tryz.underlying39 l19
 obtain ⟨n21, f21, w21⟩ := int_in Tryz.underlying5 l21
 obtain ⟨n22, f22, w22⟩ := int_in Tryz.underlying39 l22
 obtain ⟨xs, d1, d2, d3⟩ := row_of Tryz.underlying43 claim_flat claim_ts claim_size (by decide) claim_int claim_bytes l20
 subst h22 e22 e21 e20 e19 e18 e17 e16 e15 e14 e13 e12 e11 e10 e9 e8 e7 e6 e5 e4 e3 e2 e1 e0
 subst f0 f1 f2 f3 f4 f5 f6 f7 f8 f9 f10 f11 f12 f13 f14 f15 f16 f17 f18 f19 f21 f22
 exact ⟨n0, n1, n2, n3, n4, n5, n6, n7, n8, n9, n10, n11, n12, n13, n14, n15, n16, n17, n18, n19, n21, n22, c20, xs, rfl, w0, w1, w2, w3, w4, w5, w6, w7, w8, w9, w10, w11, w12, w13, w14, w15, w16, w17, w18, w19, w21, w22, d1, d2, d3⟩
end
/-- an act's data -/
def datA (n : List Int) (c : Value) (xs : List Dat) (j : Nat) : Option Dat :=
 match Nat.beq j 20 with
 | true => some (.r 89 c xs)
 | false => (n[j]?).map .n
/-- two acts' -/
def datS (n : List Int) (c : Value) (xs : List Dat) (m : List Int) (d : Value) (ys : List Dat) (j : Nat) : Option Dat :=
 match Nat.ble 30 j with
 | true => datA m d ys (j - 30)
 | false => datA n c xs j
theorem datA_ok {P : Program} {z : Nat → Option Obj} {n : List Int} {c : Value} {xs : List Dat} (h : DatOk P z (.r 89 c xs)) {j : Nat} {d : Dat} (hd : datA n c xs j = some d) : DatOk P z d := by
 unfold datA at hd
 split at hd
 ·injection hd with hd; subst hd; exact h
 ·obtain ⟨m, _, rfl⟩ := Option.map_eq_some_iff.1 hd
  trivial
theorem datA_top {n : List Int} {c : Value} {xs : List Dat} (hn : n.length = 23) {j : Nat} (hj : 23 ≤ j) : datA n c xs j = none := by
 unfold datA
 have : Nat.beq j 20 = false := by
  cases h : Nat.beq j 20 with
  | false => rfl
  | true => have := Nat.eq_of_beq_eq_true h; omega
 rw [this]
 simp only
 rw [List.getElem?_eq_none (by omega)]
 rfl
theorem symC_den {ν : Nm} {k : IntKind} {j : Nat} {n : Int} (h : ν.x j = some (.n n)) (hw : k.wrap n = n) : den ν (.sym k (.conv k (.x j))) = some (.int k n) := by
 simp only [den, denT, h, hw]
theorem deepC_den {ν : Nm} {j : Nat} {c : Value} {xs : List Dat} (h : ν.x j = some (.r 89 c xs)) (hc : c.oneCell' = true) : den ν (.deep 89 (.x j)) = some c := by
 simp only [den, denT, h]
 rw [if_pos ⟨trivial, hc⟩]
theorem actC_den {ν : Nm} {b : Nat} {n0 n1 n2 n3 n4 n5 n6 n7 n8 n9 n10 n11 n12 n13 n14 n15 n16 n17 n18 n19 n21 n22 : Int} {c : Value} {xs : List Dat} (h0 : ν.x (b + 0) = some (.n n0)) (w0 : IntKind.u8.wrap n0 = n0) (h1 : ν.x (b + 1) = some (.n n1)) (w1 : IntKind.u8.wrap n1 = n1) (h2 : ν.x (b + 2) = some (.n n2)) (w2 : IntKind.i64.wrap n2 = n2) (h3 : ν.x (b + 3) = some (.n n3)) (w3 : IntKind.u8.wrap n3 = n3) (h4 : ν.x (b + 4) = some (.n n4)) (w4 : IntKind.u32.wrap n4 = n4) (h5 : ν.x (b + 5) = some (.n n5)) (w5 : IntKind.u8.wrap n5 = n5) (h6 : ν.x (b + 6) = some (.n n6)) (w6 : IntKind.u32.wrap n6 = n6) (h7 : ν.x (b + 7) = some (.n n7)) (w7 : IntKind.u8.wrap n7 = n7) (h8 : ν.x (b + 8) = some (.n n8)) (w8 : IntKind.u32.wrap n8 = n8) (h9 : ν.x (b + 9) = some (.n n9)) (w9 : IntKind.u32.wrap n9 = n9) (h10 : ν.x (b + 10) = some (.n n10)) (w10 : IntKind.u8.wrap n10 = n10) (h11 : ν.x (b + 11) = some (.n n11)) (w11 : IntKind.u8.wrap n11 = n11) (h12 : ν.x (b + 12) = some (.n n12)) (w12 : IntKind.u64.wrap n12 = n12) (h13 : ν.x (b + 13) = some (.n n13)) (w13 : IntKind.u8.wrap n13 = n13) (h14 : ν.x (b + 14) = some (.n n14)) (w14 : IntKind.u32.wrap n14 = n14) (h15 : ν.x (b + 15) = some (.n n15)) (w15 : IntKind.u8.wrap n15 = n15) (h16 : ν.x (b + 16) = some (.n n16)) (w16 : IntKind.u32.wrap n16 = n16) (h17 : ν.x (b + 17) = some (.n n17)) (w17 : IntKind.u32.wrap n17 = n17) (h18 : ν.x (b + 18) = some (.n n18)) (w18 : IntKind.u32.wrap n18 = n18) (h19 : ν.x (b + 19) = some (.n n19)) (w19 : IntKind.u32.wrap n19 = n19) (h20 : ν.x (b + 20) = some (.r 89 c xs)) (hc : c.oneCell' = true) (h21 : ν.x (b + 21) = some (.n n21)) (w21 : IntKind.u8.wrap n21 = n21) (h22 : ν.x (b + 22) = some (.n n22)) (w22 : IntKind.u32.wrap n22 = n22) : denL ν (actC b) = some [.int .u8 n0, .int .u8 n1, .int .i64 n2, .int .u8 n3, .int .u32 n4, .int .u8 n5, .int .u32 n6, .int .u8 n7, .int .u32 n8, .int .u32 n9, .int .u8 n10, .int .u8 n11, .int .u64 n12, .int .u8 n13, .int .u32 n14, .int .u8 n15, .int .u32 n16, .int .u32 n17, .int .u32 n18, .int .u32 n19, c, .int .u8 n21, .int .u32 n22] := (denL_mk (symC_den h0 w0) (denL_mk (symC_den h1 w1) (denL_mk (symC_den h2 w2) (denL_mk (symC_den h3 w3) (denL_mk (symC_den h4 w4) (denL_mk (symC_den h5 w5) (denL_mk (symC_den h6 w6) (denL_mk (symC_den h7 w7) (denL_mk (symC_den h8 w8) (denL_mk (symC_den h9 w9) (denL_mk (symC_den h10 w10) (denL_mk (symC_den h11 w11) (denL_mk (symC_den h12 w12) (denL_mk (symC_den h13 w13) (denL_mk (symC_den h14 w14) (denL_mk (symC_den h15 w15) (denL_mk (symC_den h16 w16) (denL_mk (symC_den h17 w17) (denL_mk (symC_den h18 w18) (denL_mk (symC_den h19 w19) (denL_mk (deepC_den h20 hc) (denL_mk (symC_den h21 w21) (denL_mk (symC_den h22 w22) rfl)))))))))))))))))))))))
theorem same_good {H : Type} {enc : TypeId × Value → H} {W : World} {cs ds : List Value}
  (h1 : All2 (LeafW enc Tryz.prog W reachBytes) cs [5, 5, 3, 5, 39, 5, 39, 5, 39, 39, 5, 5, 42, 5, 39, 5, 39, 39, 39, 39, 43, 5, 39]) (h2 : All2 (LeafW enc Tryz.prog W reachBytes) ds [5, 5, 3, 5, 39, 5, 39, 5, 39, 39, 5, 5, 42, 5, 39, 5, 39, 39, 39, 39, 43, 5, 39]) (hgl : ∀ ν : Nm, GlobOk ν pgl W) :
  Calls Tryz.prog 5 #[.agg cs.toArray, .agg ds.toArray] W fun e W' => e = .returned (.bool true) ∧ Below W.heap.size W W' := by
 obtain ⟨n0, n1, n2, n3, n4, n5, n6, n7, n8, n9, n10, n11, n12, n13, n14, n15, n16, n17, n18, n19, n21, n22, c, xs, rfl, wn0, wn1, wn2, wn3, wn4, wn5, wn6, wn7, wn8, wn9, wn10, wn11, wn12, wn13, wn14, wn15, wn16, wn17, wn18, wn19, wn21, wn22, dx, cx, lx⟩ := act_in h1
 obtain ⟨m0, m1, m2, m3, m4, m5, m6, m7, m8, m9, m10, m11, m12, m13, m14, m15, m16, m17, m18, m19, m21, m22, d, ys, rfl, wm0, wm1, wm2, wm3, wm4, wm5, wm6, wm7, wm8, wm9, wm10, wm11, wm12, wm13, wm14, wm15, wm16, wm17, wm18, wm19, wm21, wm22, dy, cy, ly⟩ := act_in h2
 have top : ∀ j, atoms0 ≤ j → datS [n0, n1, n2, n3, n4, n5, n6, n7, n8, n9, n10, n11, n12, n13, n14, n15, n16, n17, n18, n19, 0, n21, n22] c xs [m0, m1, m2, m3, m4, m5, m6, m7, m8, m9, m10, m11, m12, m13, m14, m15, m16, m17, m18, m19, 0, m21, m22] d ys j = none := fun j hj => by
  have hj : 1000000 ≤ j := hj
  unfold datS
  rw [Nat.ble_eq_true_of_le (show 30 ≤ j by omega)]
  exact datA_top rfl (by omega)
 have hsz : ∀ (j : Nat) (c' : Value) (zs : List Dat), datS [n0, n1, n2, n3, n4, n5, n6, n7, n8, n9, n10, n11, n12, n13, n14, n15, n16, n17, n18, n19, 0, n21, n22] c xs [m0, m1, m2, m3, m4, m5, m6, m7, m8, m9, m10, m11, m12, m13, m14, m15, m16, m17, m18, m19, 0, m21, m22] d ys j = some (.r 89 c' zs) → zs.length ≤ reachBytes → IsSo ⟨fun _ => none, datS [n0, n1, n2, n3, n4, n5, n6, n7, n8, n9, n10, n11, n12, n13, n14, n15, n16, n17, n18, n19, 0, n21, n22] c xs [m0, m1, m2, m3, m4, m5, m6, m7, m8, m9, m10, m11, m12, m13, m14, m15, m16, m17, m18, m19, 0, m21, m22] d ys, 0, fun g => W.heap[g]?⟩ (sz (.x j)).1 true := fun j c' zs hj hl => by
  refine so_cmp_mk (fun _ _ => rfl) (x := zs.length) (y := 1000000000000000) (den_f0.2 ⟨.r 89 c' zs, _, hj, rfl, rfl⟩) rfl (decide_eq_true ?_)
  have : reachBytes = 140737488351232 := rfl
  omega
 refine eval_trueQ (U := 0) mixed names (prL_law_ok 0) same_run (datS [n0, n1, n2, n3, n4, n5, n6, n7, n8, n9, n10, n11, n12, n13, n14, n15, n16, n17, n18, n19, 0, n21, n22] c xs [m0, m1, m2, m3, m4, m5, m6, m7, m8, m9, m10, m11, m12, m13, m14, m15, m16, m17, m18, m19, 0, m21, m22] d ys) top W ?_ (hgl _) ?_ ?_ (VS := [.agg (List.toArray _), .agg (List.toArray _)])
 ·refine denL_mk ?_ (denL_mk ?_ rfl)
  ·simp only [den]
   rw [(actC_den (ν := ⟨fun _ => none, datS [n0, n1, n2, n3, n4, n5, n6, n7, n8, n9, n10, n11, n12, n13, n14, n15, n16, n17, n18, n19, 0, n21, n22] c xs [m0, m1, m2, m3, m4, m5, m6, m7, m8, m9, m10, m11, m12, m13, m14, m15, m16, m17, m18, m19, 0, m21, m22] d ys, 0, fun g => W.heap[g]?⟩) (b := 0) (show _ = some (Dat.n n0) from rfl) wn0 (show _ = some (Dat.n n1) from rfl) wn1 (show _ = some (Dat.n n2) from rfl) wn2 (show _ = some (Dat.n n3) from rfl) wn3 (show _ = some (Dat.n n4) from rfl) wn4 (show _ = some (Dat.n n5) from rfl) wn5 (show _ = some (Dat.n n6) from rfl) wn6 (show _ = some (Dat.n n7) from rfl) wn7 (show _ = some (Dat.n n8) from rfl) wn8 (show _ = some (Dat.n n9) from rfl) wn9 (show _ = some (Dat.n n10) from rfl) wn10 (show _ = some (Dat.n n11) from rfl) wn11 (show _ = some (Dat.n n12) from rfl) wn12 (show _ = some (Dat.n n13) from rfl) wn13 (show _ = some (Dat.n n14) from rfl) wn14 (show _ = some (Dat.n n15) from rfl) wn15 (show _ = some (Dat.n n16) from rfl) wn16 (show _ = some (Dat.n n17) from rfl) wn17 (show _ = some (Dat.n n18) from rfl) wn18 (show _ = some (Dat.n n19) from rfl) wn19 (show _ = some (Dat.r 89 c xs) from rfl) cx (show _ = some (Dat.n n21) from rfl) wn21 (show _ = some (Dat.n n22) from rfl) wn22)]
  ·simp only [den]
   rw [(actC_den (ν := ⟨fun _ => none, datS [n0, n1, n2, n3, n4, n5, n6, n7, n8, n9, n10, n11, n12, n13, n14, n15, n16, n17, n18, n19, 0, n21, n22] c xs [m0, m1, m2, m3, m4, m5, m6, m7, m8, m9, m10, m11, m12, m13, m14, m15, m16, m17, m18, m19, 0, m21, m22] d ys, 0, fun g => W.heap[g]?⟩) (b := 30) (show _ = some (Dat.n m0) from rfl) wm0 (show _ = some (Dat.n m1) from rfl) wm1 (show _ = some (Dat.n m2) from rfl) wm2 (show _ = some (Dat.n m3) from rfl) wm3 (show _ = some (Dat.n m4) from rfl) wm4 (show _ = some (Dat.n m5) from rfl) wm5 (show _ = some (Dat.n m6) from rfl) wm6 (show _ = some (Dat.n m7) from rfl) wm7 (show _ = some (Dat.n m8) from rfl) wm8 (show _ = some (Dat.n m9) from rfl) wm9 (show _ = some (Dat.n m10) from rfl) wm10 (show _ = some (Dat.n m11) from rfl) wm11 (show _ = some (Dat.n m12) from rfl) wm12 (show _ = some (Dat.n m13) from rfl) wm13 (show _ = some (Dat.n m14) from rfl) wm14 (show _ = some (Dat.n m15) from rfl) wm15 (show _ = some (Dat.n m16) from rfl) wm16 (show _ = some (Dat.n m17) from rfl) wm17 (show _ = some (Dat.n m18) from rfl) wm18 (show _ = some (Dat.n m19) from rfl) wm19 (show _ = some (Dat.r 89 d ys) from rfl) cy (show _ = some (Dat.n m21) from rfl) wm21 (show _ = some (Dat.n m22) from rfl) wm22)]
 ·intro t b hb
  simp only [List.mem_cons, List.not_mem_nil, or_false] at hb
  rcases hb with hb | hb
  ·cases hb
   exact hsz 20 c xs rfl lx
  ·cases hb
   exact hsz 50 d ys rfl ly
 ·intro j x hx
  unfold datS at hx
  split at hx
  ·exact datA_ok dy hx
  ·exact datA_ok dx hx
end Go.Proofs.YtcjbpaiomcfgnaaGreatDoor
