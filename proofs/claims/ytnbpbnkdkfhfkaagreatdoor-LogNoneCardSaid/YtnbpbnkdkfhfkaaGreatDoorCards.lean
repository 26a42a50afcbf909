/-
  DERIVED. GIVEN WITH THE SEED: THE CARDS: each row of YtnbpbnkdkfhfkaaGreatDoorRows.lean that lists a variable, with what it lists TIED to the program's text (the seventh form; the later family's looks); each row that meets fmt, with fmt's text TOLD by the authors' own Lean function (tested against real Go, not proved from fmt's source: count such statements apart). THE CARD IS WHAT COUNTS. Prove the row's statement (the work); the ties are given (YtnbpbnkdkfhfkaaGreatDoorTie.lean); close each card by the builder's one call (the guide's Derived/Test/ToyasCard.lean, 'card_holds'). Laid BY PROGRAM, IN A SANDBOX (cutbox-door.mjs). By AI agents, Wed Nov 11 2026. No macro, syntax, notation, axiom, sorry.
-/
import Derived.Test.YtnbpbnkdkfhfkaaGreatDoorRows
import GoSem.ClaimSeven
namespace Go.Proofs.YtnbpbnkdkfhfkaaGreatDoor
namespace Rows

/-- THE TIED CARD OF 'tranterlaw09.LogNone'. -/
def logNoneCard : Claim7 := { stood := { row := logNoneRow, standIns := [], harness := (true, "56712e9c32f7741e67175c9e6338b563492d24ea43d9a99c0ca27622c21bbb10"), looks := true }, kinds := [], alts := [], laidByText := true, laidKinds := [.data, .data, .data, .sentinel, .sentinel], laidTests := true, laidLooks := .later }
def LogNoneCardSaid : Prop := Claim7.holds Tryz.pinned (.plain (OpenSpec.ofChange logNoneSpec)) logNoneCard

/-- THE SECOND FORM's CARD OF 'tranterlaw09.LogNone'. -/
def logNoneUptoCard : Claim7 := { stood := { row := logNoneUptoRow, standIns := [], harness := (true, "56712e9c32f7741e67175c9e6338b563492d24ea43d9a99c0ca27622c21bbb10"), looks := true }, kinds := [], alts := [], laidByText := true, laidKinds := [.data, .data, .data, .sentinel, .sentinel], laidTests := true, laidLooks := .later }
def LogNoneUptoCardSaid : Prop := Claim7.holds Tryz.pinned (.plain (OpenSpec.upto logNoneSpec)) logNoneUptoCard
end Rows
end Go.Proofs.YtnbpbnkdkfhfkaaGreatDoor
