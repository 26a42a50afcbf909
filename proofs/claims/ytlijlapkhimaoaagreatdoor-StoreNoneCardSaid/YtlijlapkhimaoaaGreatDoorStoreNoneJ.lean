/- StoreNone returns true for every request, every dot and all bytes, and leaves them as they were: the row, and its tied card. No condition but the listed variables'. -/
import Derived.Test.YtlijlapkhimaoaaGreatDoorRows
import Derived.Test.YtlijlapkhimaoaaGreatDoorCards
import Derived.LaidByTextLater
import Derived.Test.YtlijlapkhimaoaaGreatDoorStK1
import Derived.Test.YtlijlapkhimaoaaGreatDoorStK3
import Derived.Test.YtlijlapkhimaoaaGreatDoorStK4
import Derived.Test.YtlijlapkhimaoaaGreatDoorStK5
import Derived.Test.YtlijlapkhimaoaaGreatDoorStD1
import Derived.Test.YtlijlapkhimaoaaGreatDoorStD2
import Derived.Test.YtlijlapkhimaoaaGreatDoorStD4
import Derived.Test.YtlijlapkhimaoaaGreatDoorStW1
import Derived.Test.YtlijlapkhimaoaaGreatDoorStW2
import Derived.Test.YtlijlapkhimaoaaGreatDoorStW3
import Derived.Test.YtlijlapkhimaoaaGreatDoorStW4
import Derived.Test.YtlijlapkhimaoaaGreatDoorStW5
import Derived.Test.YtlijlapkhimaoaaGreatDoorStW6
import Derived.Test.YtlijlapkhimaoaaGreatDoorStW8
import Derived.Test.YtlijlapkhimaoaaGreatDoorStW10
import Derived.Test.YtlijlapkhimaoaaGreatDoorStoreE
import Derived.Test.YtlijlapkhimaoaaGreatDoorFlat
import Derived.Test.YtlijlapkhimaoaaGreatDoorE24
import Derived.WalkKit
import Derived.ProofKit
import Derived.LaidMore
import Derived.OpenShut
import Derived.Carry
import Derived.SevenTiedAt
namespace Go.Proofs.YtlijlapkhimaoaaGreatDoor
theorem k_tie : Tryz.prog.laidByTextLater laidV kindsV true :=
  Program.laidByTextLater_by_run 400 8 k_hw k_hw' k_hroot k_hk k_hg k_hn k_hd k_h1 k_h2 k_hp
theorem k_row_tie : Rows.storeNoneRow.laidByTextAt .later Tryz.pinned kindsV true :=
  OpenClaim.laidByTextAt_later rfl rfl k_tie k_own
theorem own_ : ownKnob Tryz.prog.godebug = none := by kernel_rfl
theorem laidOut_ : laidOutB Tryz.prog = true := w2
end Go.Proofs.YtlijlapkhimaoaaGreatDoor
namespace Go.Proofs.YtlijlapkhimaoaaGreatDoor.storeNone
open Go.ChangeShapes Go.WideShapes Go.ChangeAt Go.RowKit
set_option linter.unusedVariables false

theorem req_flat : flatOf Tryz.prog 6 28 = some [5, 22, 5, 22, 5, 22, 22, 5, 5, 25, 5, 22, 5, 22, 22, 22, 22, 26] := by kernel_rfl
theorem dot_flat : flatOf Tryz.prog 6 24 = some [5, 22] := by kernel_rfl

theorem kinds_laid {W : World} (h : laidMetH Tryz.prog Rows.storeNoneRow.laid W) (ν : Nm) : GlobOk ν pgl W :=
  globOk_ints (n := "tranter/op.kinds") (g := 0) (t := 365) (e := 5) (len := 9) (k := .u8) (ns := [0, 3, 5, 49, 37, 5, 13, 13, 65]) h (by kernel_rfl)
    (by simp [Rows.storeNoneRow, Rows.laid_tranter_op_kinds]) (by kernel_rfl) (by kernel_rfl) Tryz.underlying365 Tryz.underlying5 (by kernel_rfl)

set_option maxRecDepth 100000 in
theorem contract (H : Type) (enc : TypeId × Value → H) (W : World) (base : Nat) (args : Array Value) (ds gs : List (DataW H)) (before : List MemPlace)
    (hval : ∀ (j : Nat) t v, Tryz.f3.params[j]? = some t → args[j]? = some v → Value.okWide Tryz.prog W .any base t v)
    (hW : DataW.Whole enc Tryz.prog Tryz.f3.params.toList Rows.storeNoneSpec.vars false W args.toList ds gs before) (hL : laidMetH Tryz.prog Rows.storeNoneRow.laid W) :
    Calls Tryz.prog 3 args W fun e W' => ∃ v, e = .returned v ∧ Rows.storeNoneSpec.post enc Tryz.prog Tryz.f3 false true false false W args v W' := by
  have hW' := hW
  obtain ⟨p, q, hA0, hV, rfl, hfz, hnd⟩ := hW
  have hA : DataW.TrodAll enc Tryz.prog W 0 (fun _ => true) true Tryz.f3.params.toList args.toList ds p := hA0
  rw [Tryz.params3] at hA hval
  obtain ⟨v0, v1, v2, d0, d1, d2, p0, p1, p2, rfl, rfl, rfl, h0, h1, h2⟩ := trodAll_three hA
  obtain ⟨rfl, rfl⟩ := trodVars_none hV
  clear hA0
  obtain ⟨a0, rfl, _⟩ := okWide_struct Tryz.underlying28 (hval 0 _ v0 rfl rfl)
  obtain ⟨a1, rfl, _⟩ := okWide_struct Tryz.underlying24 (hval 1 _ v1 rfl rfl)
  obtain ⟨s2, rfl⟩ := okWide_string Tryz.underlying9 (hval 2 _ v2 rfl rfl)
  obtain ⟨f0, h0'⟩ := id h0
  obtain ⟨f1, h1'⟩ := id h1
  obtain ⟨hl, ho⟩ := flat_ones (cs := a0.toList) (flat_opens 6 _ _ req_flat _ _ _ h0') (by kernel_rfl)
  obtain ⟨hd, hod⟩ := flat_ones (cs := a1.toList) (flat_opens 6 _ _ dot_flat _ _ _ h1') (by kernel_rfl)
  have hlt : ∀ x ∈ p0 ++ p1 ++ p2, x.block < W.heap.size := fun x hx => by simpa using hW'.lt x (by simpa using hx)
  refine (storeNone_any a0.toList a1.toList (.string s2) (by simpa using hl) (by simpa using hd) ho hod rfl W (kinds_laid hL _)).mono ?_
  rintro e W' ⟨rfl, hb⟩
  refine ⟨_, rfl, _, _, _, [] ++ [], p0 ++ (p1 ++ p2), [], hW', ?_, ?_, rfl, hb.frame _, fun h => by cases h⟩
  · exact trodAll_cons_mk (shut_bool Tryz.underlying4 _) trodAll_mk0
  · exact trodAll_cons_mk (Below.trod laidOut_ (by kernel_rfl) (of_decide_eq_true (by kernel_rfl)) h0 hb fun x hx => hlt x (List.mem_append_left _ (List.mem_append_left _ hx)))
      (trodAll_cons_mk (Below.trod laidOut_ (by kernel_rfl) (of_decide_eq_true (by kernel_rfl)) h1 hb fun x hx => hlt x (List.mem_append_left _ (List.mem_append_right _ hx)))
      (trodAll_mk1 (Below.trod laidOut_ (by kernel_rfl) (of_decide_eq_true (by kernel_rfl)) h2 hb fun x hx => hlt x (List.mem_append_right _ hx))))

/-- the door's own heap meets the condition -/
theorem door_met (os : Os) (args : Array Value) : laidMetH Tryz.prog Rows.storeNoneRow.laid ((World.doorLaid Tryz.prog 4000 os).forCall (fun _ _ => 0) ⟨#[], args, []⟩).memory :=
  laidMetH_of_parts3 (fuel := 8) (laidMet_of_run' 8 (d_f1 os args) (d_f2 os args)) (d_f3 os args) (d_f4 os args)

set_option maxRecDepth 100000 in
theorem lifted (os : Os) (started : os.Started) (H : Type) (enc : TypeId × Value → H) :
    ReturnsInHanded {} Tryz.checked os 3 .any (fun w args => (Rows.storeNoneSpec.pre enc Tryz.prog Tryz.f3 [] false w args ∧ laidMetH Tryz.prog Rows.storeNoneRow.laid w) ∧ sizedMet enc Tryz.prog Tryz.f3 (OpenSpec.ofChange Rows.storeNoneSpec) false w args)
      (Rows.storeNoneSpec.post enc Tryz.prog Tryz.f3 false true false false) := by
  refine returnsInHanded_of_change_and (C := Tryz.checked) (X := fun w _ => laidMetH Tryz.prog Rows.storeNoneRow.laid w) (fun _ _ _ hh h => h.of_heap hh) own_ started (by kernel_rfl) Tryz.func3
    (ChangeSpec.witness_shaped (enc := enc) (C := Tryz.checked) (os := os) (X := fun w _ => laidMetH Tryz.prog Rows.storeNoneRow.laid w) false (World.doorLaid Tryz.prog 4000 os) args0 8 rfl (World.shaped_of_RefB (d_f5 os) (d_f6 os)) (d_f7 os) (d_f8 enc os) (d_f9 enc os) (door_met os _)) ?_
  intro W base args ds gs before hval hW _ _ hL _
  exact contract H enc W base args ds gs before hval hW hL

set_option maxRecDepth 100000 in
theorem over : Rows.StoreNoneSaid :=
  OpenClaim.holds_of_wide 3 Tryz.f3 rfl rfl rfl rfl rfl rfl rfl ⟨rfl, rfl, rfl, rfl, rfl⟩ rfl rfl rfl rfl rfl x_named Tryz.func3 (joined_split w1 w2 w3 w4 w5 w6 w7 w8 w9 w10 w11 w12 w13 w14 w15 w16 w17 w18 w19 w20 w21 w22 w23 w24 w25 w26 w27 w28 w29 w30 w31 w32)
    (of_decide_eq_true (by kernel_rfl)) (by unfold Func.isWrapper; first | (rw [if_pos (by decide +kernel)]; kernel_rfl) | (rw [if_neg (by decide +kernel)]; exact ⟨rfl, rfl⟩))
    (fun os started H enc _ => lifted os started H enc)

set_option maxRecDepth 100000 in
theorem proved : Rows.StoreNoneCardSaid :=
  Claim7.holds_tied_plain_at .later [] kindsV true Rows.storeNoneCard.stood.harness true
    over (fun _ h => by cases h) x_wf (fun _ h => by cases h) k_row_tie rfl ⟨rfl, rfl⟩ x_main rfl
    (fun f fn hf hfn => by
      obtain rfl : f = 3 := Option.some.inj (x_named.symm.trans hf) |>.symm
      obtain rfl : fn = Tryz.f3 := (Option.some.inj (Tryz.func3.symm.trans hfn)).symm
      exact ⟨x_looks, fun j t ht => by
        rw [Tryz.params3] at ht
        have hm : t ∈ [28, 24, 9] := by simpa using Array.mem_of_getElem? ht
        exact (show Tryz.prog.wantsStandIn t = false by simpa using List.all_eq_true.1 x_stand t hm)⟩)
    x_goes
end Go.Proofs.YtlijlapkhimaoaaGreatDoor.storeNone
