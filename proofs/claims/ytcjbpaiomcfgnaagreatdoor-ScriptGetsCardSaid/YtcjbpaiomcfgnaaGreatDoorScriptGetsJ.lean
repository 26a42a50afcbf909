/- ScriptGets returns true for any bytes: the row, and its tied card. No condition but the listed variables'. -/
import Derived.Test.YtcjbpaiomcfgnaaGreatDoorRows
import Derived.Test.YtcjbpaiomcfgnaaGreatDoorCards
import Derived.LaidByTextLater
import Derived.Test.YtcjbpaiomcfgnaaGreatDoorSsK1
import Derived.Test.YtcjbpaiomcfgnaaGreatDoorSsK3
import Derived.Test.YtcjbpaiomcfgnaaGreatDoorSsK4
import Derived.Test.YtcjbpaiomcfgnaaGreatDoorSsK5
import Derived.Test.YtcjbpaiomcfgnaaGreatDoorSgD1
import Derived.Test.YtcjbpaiomcfgnaaGreatDoorSgD2
import Derived.Test.YtcjbpaiomcfgnaaGreatDoorSgD4
import Derived.Test.YtcjbpaiomcfgnaaGreatDoorSgW1
import Derived.Test.YtcjbpaiomcfgnaaGreatDoorSgW2
import Derived.Test.YtcjbpaiomcfgnaaGreatDoorSgW3
import Derived.Test.YtcjbpaiomcfgnaaGreatDoorSgW4
import Derived.Test.YtcjbpaiomcfgnaaGreatDoorSgW5
import Derived.Test.YtcjbpaiomcfgnaaGreatDoorSgW6
import Derived.Test.YtcjbpaiomcfgnaaGreatDoorSgW8
import Derived.Test.YtcjbpaiomcfgnaaGreatDoorSgW10
import Derived.Test.YtcjbpaiomcfgnaaGreatDoorPgGetsA
import Derived.Test.YtcjbpaiomcfgnaaGreatDoorGf
import Derived.WalkKit
import Derived.ProofKit
import Derived.LaidMore
import Derived.OpenShut
import Derived.Carry
import Derived.SevenTiedAt
namespace Go.Proofs.YtcjbpaiomcfgnaaGreatDoor
theorem k_tie : Tryz.prog.laidByTextLater laidV kindsV true :=
 Program.laidByTextLater_by_run 400 8 k_hw k_hw' k_hroot k_hk k_hg k_hn k_hd k_h1 k_h2 k_hp
theorem k_row_tie : Rows.scriptGetsRow.laidByTextAt .later Tryz.pinned kindsV true :=
 OpenClaim.laidByTextAt_later rfl rfl k_tie k_own
theorem own_ : ownKnob Tryz.prog.godebug = none := by kernel_rfl
theorem laidOut_ : laidOutB Tryz.prog = true := w2
end Go.Proofs.YtcjbpaiomcfgnaaGreatDoor
namespace Go.Proofs.YtcjbpaiomcfgnaaGreatDoor.scriptGets
open Go.ChangeShapes Go.WideShapes Go.ChangeAt Go.RowKit
set_option linter.unusedVariables false
theorem kinds_laid {W : World} (h : laidMetH Tryz.prog Rows.scriptGetsRow.laid W) (ν : Nm) : GlobOk ν pgl W :=
 globOk_ints (n := "tranter/op.kinds") (g := 0) (t := 495) (e := 5) (len := 9) (k := .u8) (ns := [0, 3, 5, 49, 37, 5, 13, 13, 65]) h (by kernel_rfl)
  (by simp [Rows.scriptGetsRow, Rows.laid_tranter_op_kinds]) (by kernel_rfl) (by kernel_rfl) Tryz.underlying495 Tryz.underlying5 (by kernel_rfl)
set_option maxRecDepth 100000 in
theorem contract (H : Type) (enc : TypeId × Value → H) (W : World) (base : Nat) (args : Array Value) (ds gs : List (DataW H)) (before : List MemPlace)
  (hval : ∀ (j : Nat) t v, Tryz.f4.params[j]? = some t → args[j]? = some v → Value.okWide Tryz.prog W .any base t v)
  (hW : DataW.Whole enc Tryz.prog Tryz.f4.params.toList Rows.scriptGetsSpec.vars false W args.toList ds gs before) (hL : laidMetH Tryz.prog Rows.scriptGetsRow.laid W) (hwt : (DataW.weightsEach Tryz.prog (Tryz.f4.params.toList ++ Rows.scriptGetsSpec.plain.varTypes Tryz.prog) (ds ++ gs)).all (· ≤ reachBytes) = true) :
  Calls Tryz.prog 4 args W fun e W' => ∃ v, e = .returned v ∧ Rows.scriptGetsSpec.post enc Tryz.prog Tryz.f4 false true false false W args v W' := by
 have hW' := hW
 obtain ⟨p, q, hA0, hV, rfl, hfz, hnd⟩ := hW
 have hA : DataW.TrodAll enc Tryz.prog W 0 (fun _ => true) true Tryz.f4.params.toList args.toList ds p := hA0
 rw [Tryz.params4] at hA hval hwt
 obtain ⟨v0, d0, rfl, rfl, h0⟩ := trodAll_one hA
 obtain ⟨rfl, rfl⟩ := trodVars_none hV
 clear hA0
 have hall : ∀ n ∈ DataW.weightsEach Tryz.prog ([9] ++ Rows.scriptGetsSpec.plain.varTypes Tryz.prog) ([d0] ++ []), n ≤ reachBytes := fun n hn => of_decide_eq_true (List.all_eq_true.1 hwt n hn)
 have w0 : ∀ n ∈ d0.weights Tryz.prog 9, n ≤ reachBytes := fun n hn => hall n (weightsEach_mem (i := 0) rfl rfl n hn)
 obtain ⟨s0, rfl⟩ := okWide_string Tryz.underlying9 (hval 0 _ v0 rfl rfl)
 obtain ⟨f0, h0'⟩ := id h0
 have hlt0 : ∀ x ∈ p, x.block < W.heap.size := fun x hx => by simpa using hW'.lt x (by simp [hx])
 refine (gets_good (enc := enc) ⟨f0, _, h0', w0⟩ (kinds_laid hL)).mono ?_
 rintro e W' ⟨rfl, hb⟩
 refine ⟨_, rfl, _, _, _, [] ++ [], p, [], hW', ?_, ?_, rfl, hb.frame _, fun h => by cases h⟩
 ·exact trodAll_cons_mk (shut_bool Tryz.underlying4 _) trodAll_mk0
 ·exact trodAll_mk1 (Below.trod laidOut_ (by kernel_rfl) (of_decide_eq_true (by kernel_rfl)) h0 hb hlt0)
/-- the door's own heap meets the condition -/
theorem door_met (os : Os) (args : Array Value) : laidMetH Tryz.prog Rows.scriptGetsRow.laid ((World.doorLaid Tryz.prog 4000 os).forCall (fun _ _ => 0) ⟨#[], args, []⟩).memory :=
 laidMetH_of_parts3 (fuel := 8) (laidMet_of_run' 8 (d_f1 os args) (d_f2 os args)) (d_f3 os args) (d_f4 os args)
set_option maxRecDepth 100000 in
theorem lifted (os : Os) (started : os.Started) (H : Type) (enc : TypeId × Value → H) :
  ReturnsInHanded {} Tryz.checked os 4 .any (fun w args => (Rows.scriptGetsSpec.pre enc Tryz.prog Tryz.f4 [] false w args ∧ laidMetH Tryz.prog Rows.scriptGetsRow.laid w) ∧ sizedMet enc Tryz.prog Tryz.f4 (OpenSpec.ofChange Rows.scriptGetsSpec) false w args)
   (Rows.scriptGetsSpec.post enc Tryz.prog Tryz.f4 false true false false) := by
 refine returnsInHanded_of_change_and (C := Tryz.checked) (X := fun w _ => laidMetH Tryz.prog Rows.scriptGetsRow.laid w) (fun _ _ _ hh h => h.of_heap hh) own_ started (by kernel_rfl) Tryz.func4
  (ChangeSpec.witness_shaped (enc := enc) (C := Tryz.checked) (os := os) (X := fun w _ => laidMetH Tryz.prog Rows.scriptGetsRow.laid w) false (World.doorLaid Tryz.prog 4000 os) args0 8 rfl (World.shaped_of_RefB (d_f5 os) (d_f6 os)) (d_f7 os) (d_f8 enc os) (d_f9 enc os) (door_met os _)) ?_
 intro W base args ds gs before hval hW _ hwt hL _
 exact contract H enc W base args ds gs before hval hW hL hwt
set_option maxRecDepth 100000 in
theorem over : Rows.ScriptGetsSaid :=
 OpenClaim.holds_of_wide 4 Tryz.f4 rfl rfl rfl rfl rfl rfl rfl ⟨rfl, rfl, rfl, rfl, rfl⟩ rfl rfl rfl rfl rfl x_named Tryz.func4 (joined_split w1 w2 w3 w4 w5 w6 w7 w8 w9 w10 w11 w12 w13 w14 w15 w16 w17 w18 w19 w20 w21 w22 w23 w24 w25 w26 w27 w28 w29 w30 w31 w32)
  (of_decide_eq_true (by kernel_rfl)) (by unfold Func.isWrapper; first | (rw [if_pos (by decide +kernel)]; kernel_rfl) | (rw [if_neg (by decide +kernel)]; exact ⟨rfl, rfl⟩))
  (fun os started H enc _ => lifted os started H enc)
set_option maxRecDepth 100000 in
theorem proved : Rows.ScriptGetsCardSaid :=
 Claim7.holds_tied_plain_at .later [] kindsV true Rows.scriptGetsCard.stood.harness true
  over (fun _ h => by cases h) x_wf (fun _ h => by cases h) k_row_tie rfl ⟨rfl, rfl⟩ x_main rfl
  (fun f fn hf hfn => by
   obtain rfl : f = 4 := Option.some.inj (x_named.symm.trans hf) |>.symm
   obtain rfl : fn = Tryz.f4 := (Option.some.inj (Tryz.func4.symm.trans hfn)).symm
   exact ⟨x_looks, fun j t ht => by
    rw [Tryz.params4] at ht
    have hm : t ∈ [9] := by simpa using Array.mem_of_getElem? ht
    exact (show Tryz.prog.wantsStandIn t = false by simpa using List.all_eq_true.1 x_stand t hm)⟩)
  x_goes
end Go.Proofs.YtcjbpaiomcfgnaaGreatDoor.scriptGets
