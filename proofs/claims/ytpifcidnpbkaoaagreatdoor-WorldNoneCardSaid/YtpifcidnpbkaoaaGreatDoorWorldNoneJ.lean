/- WorldNone returns true for every plan and every act, and leaves them as they were: the row, and its tied card. No condition but the listed variables'. -/
import Derived.Test.YtpifcidnpbkaoaaGreatDoorRows
import Derived.Test.YtpifcidnpbkaoaaGreatDoorCards
import Derived.LaidByTextLater
import Derived.Test.YtpifcidnpbkaoaaGreatDoorWnK1
import Derived.Test.YtpifcidnpbkaoaaGreatDoorWnK3
import Derived.Test.YtpifcidnpbkaoaaGreatDoorWnK4
import Derived.Test.YtpifcidnpbkaoaaGreatDoorWnK5
import Derived.Test.YtpifcidnpbkaoaaGreatDoorWnD1
import Derived.Test.YtpifcidnpbkaoaaGreatDoorWnD2
import Derived.Test.YtpifcidnpbkaoaaGreatDoorWnD4
import Derived.Test.YtpifcidnpbkaoaaGreatDoorWnW1
import Derived.Test.YtpifcidnpbkaoaaGreatDoorWnW2
import Derived.Test.YtpifcidnpbkaoaaGreatDoorWnW3
import Derived.Test.YtpifcidnpbkaoaaGreatDoorWnW4
import Derived.Test.YtpifcidnpbkaoaaGreatDoorWnW5
import Derived.Test.YtpifcidnpbkaoaaGreatDoorWnW6
import Derived.Test.YtpifcidnpbkaoaaGreatDoorWnW8
import Derived.Test.YtpifcidnpbkaoaaGreatDoorWnW10
import Derived.Test.YtpifcidnpbkaoaaGreatDoorWnE1
import Derived.Test.YtpifcidnpbkaoaaGreatDoorWnE2
import Derived.Test.YtpifcidnpbkaoaaGreatDoorWnE3
import Derived.Test.YtpifcidnpbkaoaaGreatDoorGg
import Derived.WalkKit
import Derived.ProofKit
import Derived.LaidMore
import Derived.OpenShut
import Derived.Carry
import Derived.SevenTiedAt
namespace Go.Proofs.YtpifcidnpbkaoaaGreatDoor
theorem k_tie : Tryz.prog.laidByTextLater laidV kindsV true :=
  Program.laidByTextLater_by_run 400 8 k_hw k_hw' k_hroot k_hk k_hg k_hn k_hd k_h1 k_h2 k_hp
theorem k_row_tie : Rows.worldNoneRow.laidByTextAt .later Tryz.pinned kindsV true :=
  OpenClaim.laidByTextAt_later rfl rfl k_tie k_own
theorem own_ : ownKnob Tryz.prog.godebug = none := by kernel_rfl
theorem laidOut_ : laidOutB Tryz.prog = true := w2
end Go.Proofs.YtpifcidnpbkaoaaGreatDoor
namespace Go.Proofs.YtpifcidnpbkaoaaGreatDoor.worldNone
open Go.ChangeShapes Go.WideShapes Go.ChangeAt Go.RowKit
set_option linter.unusedVariables false

theorem plan_flat : flatOf Tryz.prog 6 23 = some [3, 3, 3, 3] := by kernel_rfl
theorem act_flat : flatOf Tryz.prog 6 32 = some [5, 5, 3, 5, 24, 5, 24, 5, 24, 24, 5, 5, 27, 5, 24, 5, 24, 24, 24, 24, 28, 5, 24] := by kernel_rfl
theorem leaf_int {H : Type} {enc : TypeId × Value → H} {P : Program} {w : World} {c : Value} {t : TypeId} {k : IntKind} (ht : P.underlying t = some (.int k)) (h : Leaf enc P w c t) : ∃ n, c = .int k n := by
  obtain ⟨fuel, x, h⟩ := h
  obtain ⟨n, e, _⟩ := DataW.trod_int ht h
  exact ⟨n, by simpa using e⟩
theorem worldNone_any (n b l r : Int) (cs : List Value) (hl : cs.length = 23) (ho : ∀ c ∈ cs, c.oneCell' = true) : Good 3 n b l r cs := by
  by_cases h0 : n < 1
  · exact good_if wn_lo (by simp [binZ, intBinA, h0]) b l r cs hl ho
  · by_cases h8 : n > 8
    · exact good_if wn_hi (by simp [binZ, intBinA, h8]) b l r cs hl ho
    · obtain h | h | h | h | h | h | h | h : n = 1 ∨ n = 2 ∨ n = 3 ∨ n = 4 ∨ n = 5 ∨ n = 6 ∨ n = 7 ∨ n = 8 := by omega
      · subst h; exact good_of wn_1 b l r cs hl ho
      · subst h; exact good_of wn_2 b l r cs hl ho
      · subst h; exact good_of wn_3 b l r cs hl ho
      · subst h; exact good_of wn_4 b l r cs hl ho
      · subst h; exact good_of wn_5 b l r cs hl ho
      · subst h; exact good_of wn_6 b l r cs hl ho
      · subst h; exact good_of wn_7 b l r cs hl ho
      · subst h; exact good_of wn_8 b l r cs hl ho

theorem kinds_laid {W : World} (h : laidMetH Tryz.prog Rows.worldNoneRow.laid W) (ν : Nm) : GlobOk ν pgl W :=
  globOk_ints (n := "tranter/op.kinds") (g := 0) (t := 469) (e := 5) (len := 9) (k := .u8) (ns := [0, 3, 5, 49, 37, 5, 13, 13, 65]) h (by kernel_rfl)
    (by simp [Rows.worldNoneRow, Rows.laid_tranter_op_kinds]) (by kernel_rfl) (by kernel_rfl) Tryz.underlying469 Tryz.underlying5 (by kernel_rfl)

set_option maxRecDepth 100000 in
theorem contract (H : Type) (enc : TypeId × Value → H) (W : World) (base : Nat) (args : Array Value) (ds gs : List (DataW H)) (before : List MemPlace)
    (hval : ∀ (j : Nat) t v, Tryz.f3.params[j]? = some t → args[j]? = some v → Value.okWide Tryz.prog W .any base t v)
    (hW : DataW.Whole enc Tryz.prog Tryz.f3.params.toList Rows.worldNoneSpec.vars false W args.toList ds gs before) (hL : laidMetH Tryz.prog Rows.worldNoneRow.laid W) :
    Calls Tryz.prog 3 args W fun e W' => ∃ v, e = .returned v ∧ Rows.worldNoneSpec.post enc Tryz.prog Tryz.f3 false true false false W args v W' := by
  have hW' := hW
  obtain ⟨p, q, hA0, hV, rfl, hfz, hnd⟩ := hW
  have hA : DataW.TrodAll enc Tryz.prog W 0 (fun _ => true) true Tryz.f3.params.toList args.toList ds p := hA0
  rw [Tryz.params3] at hA hval
  obtain ⟨v0, v1, d0, d1, p0, p1, rfl, rfl, rfl, h0, h1⟩ := trodAll_two hA
  obtain ⟨rfl, rfl⟩ := trodVars_none hV
  clear hA0
  obtain ⟨a0, rfl, _⟩ := okWide_struct Tryz.underlying23 (hval 0 _ v0 rfl rfl)
  obtain ⟨a1, rfl, _⟩ := okWide_struct Tryz.underlying32 (hval 1 _ v1 rfl rfl)
  obtain ⟨f0, h0'⟩ := id h0
  obtain ⟨f1, h1'⟩ := id h1
  have hf := flat_opens 6 _ _ plan_flat _ a0.toList _ h0'
  obtain ⟨n, b, l, r, ha⟩ : ∃ n b l r, a0.toList = [.int .i64 n, .int .i64 b, .int .i64 l, .int .i64 r] := by
    revert hf
    generalize a0.toList = cs
    intro hf
    match cs, hf with
    | [c0, c1, c2, c3], hf =>
      obtain ⟨n, rfl⟩ := leaf_int Tryz.underlying3 hf.1
      obtain ⟨b, rfl⟩ := leaf_int Tryz.underlying3 hf.2.1
      obtain ⟨l, rfl⟩ := leaf_int Tryz.underlying3 hf.2.2.1
      obtain ⟨r, rfl⟩ := leaf_int Tryz.underlying3 hf.2.2.2.1
      exact ⟨n, b, l, r, rfl⟩
    | [], hf => exact hf.elim
    | [_], hf => exact hf.2.elim
    | [_, _], hf => exact hf.2.2.elim
    | [_, _, _], hf => exact hf.2.2.2.elim
    | _ :: _ :: _ :: _ :: _ :: _, hf => exact hf.2.2.2.2.elim
  obtain rfl : a0 = #[.int .i64 n, .int .i64 b, .int .i64 l, .int .i64 r] := by rw [← Array.toArray_toList (xs := a0), ha]
  obtain ⟨hl, ho⟩ := flat_ones (cs := a1.toList) (flat_opens 6 _ _ act_flat _ _ _ h1') (by kernel_rfl)
  have hlt : ∀ x ∈ p0 ++ p1, x.block < W.heap.size := fun x hx => by simpa using hW'.lt x (by simpa using hx)
  refine (worldNone_any n b l r a1.toList (by simpa using hl) ho W (kinds_laid hL _)).mono ?_
  rintro e W' ⟨rfl, hb⟩
  refine ⟨_, rfl, _, _, _, [] ++ [], p0 ++ p1, [], hW', ?_, ?_, rfl, hb.frame _, fun h => by cases h⟩
  · exact trodAll_cons_mk (shut_bool Tryz.underlying4 _) trodAll_mk0
  · exact trodAll_cons_mk (Below.trod laidOut_ (by kernel_rfl) (of_decide_eq_true (by kernel_rfl)) h0 hb fun x hx => hlt x (List.mem_append_left _ hx))
      (trodAll_mk1 (Below.trod laidOut_ (by kernel_rfl) (of_decide_eq_true (by kernel_rfl)) h1 hb fun x hx => hlt x (List.mem_append_right _ hx)))

/-- the door's own heap meets the condition -/
theorem door_met (os : Os) (args : Array Value) : laidMetH Tryz.prog Rows.worldNoneRow.laid ((World.doorLaid Tryz.prog 4000 os).forCall (fun _ _ => 0) ⟨#[], args, []⟩).memory :=
  laidMetH_of_parts3 (fuel := 8) (laidMet_of_run' 8 (d_f1 os args) (d_f2 os args)) (d_f3 os args) (d_f4 os args)

set_option maxRecDepth 100000 in
theorem lifted (os : Os) (started : os.Started) (H : Type) (enc : TypeId × Value → H) :
    ReturnsInHanded {} Tryz.checked os 3 .any (fun w args => (Rows.worldNoneSpec.pre enc Tryz.prog Tryz.f3 [] false w args ∧ laidMetH Tryz.prog Rows.worldNoneRow.laid w) ∧ sizedMet enc Tryz.prog Tryz.f3 (OpenSpec.ofChange Rows.worldNoneSpec) false w args)
      (Rows.worldNoneSpec.post enc Tryz.prog Tryz.f3 false true false false) := by
  refine returnsInHanded_of_change_and (C := Tryz.checked) (X := fun w _ => laidMetH Tryz.prog Rows.worldNoneRow.laid w) (fun _ _ _ hh h => h.of_heap hh) own_ started (by kernel_rfl) Tryz.func3
    (ChangeSpec.witness_shaped (enc := enc) (C := Tryz.checked) (os := os) (X := fun w _ => laidMetH Tryz.prog Rows.worldNoneRow.laid w) false (World.doorLaid Tryz.prog 4000 os) args0 8 rfl (World.shaped_of_RefB (d_f5 os) (d_f6 os)) (d_f7 os) (d_f8 enc os) (d_f9 enc os) (door_met os _)) ?_
  intro W base args ds gs before hval hW _ _ hL _
  exact contract H enc W base args ds gs before hval hW hL

set_option maxRecDepth 100000 in
theorem over : Rows.WorldNoneSaid :=
  OpenClaim.holds_of_wide 3 Tryz.f3 rfl rfl rfl rfl rfl rfl rfl ⟨rfl, rfl, rfl, rfl, rfl⟩ rfl rfl rfl rfl rfl x_named Tryz.func3 (joined_split w1 w2 w3 w4 w5 w6 w7 w8 w9 w10 w11 w12 w13 w14 w15 w16 w17 w18 w19 w20 w21 w22 w23 w24 w25 w26 w27 w28 w29 w30 w31 w32)
    (of_decide_eq_true (by kernel_rfl)) (by unfold Func.isWrapper; first | (rw [if_pos (by decide +kernel)]; kernel_rfl) | (rw [if_neg (by decide +kernel)]; exact ⟨rfl, rfl⟩))
    (fun os started H enc _ => lifted os started H enc)

set_option maxRecDepth 100000 in
theorem proved : Rows.WorldNoneCardSaid :=
  Claim7.holds_tied_plain_at .later [] kindsV true Rows.worldNoneCard.stood.harness true
    over (fun _ h => by cases h) x_wf (fun _ h => by cases h) k_row_tie rfl ⟨rfl, rfl⟩ x_main rfl
    (fun f fn hf hfn => by
      obtain rfl : f = 3 := Option.some.inj (x_named.symm.trans hf) |>.symm
      obtain rfl : fn = Tryz.f3 := (Option.some.inj (Tryz.func3.symm.trans hfn)).symm
      exact ⟨x_looks, fun j t ht => by
        rw [Tryz.params3] at ht
        have hm : t ∈ [23, 32] := by simpa using Array.mem_of_getElem? ht
        exact (show Tryz.prog.wantsStandIn t = false by simpa using List.all_eq_true.1 x_stand t hm)⟩)
    x_goes
end Go.Proofs.YtpifcidnpbkaoaaGreatDoor.worldNone
