/-
  DERIVED. GIVEN WITH THE SEED: THE CARDS: each row of YtejgdchipppgeaaGreatDoorRows.lean that lists a variable, with what it lists TIED to the program's text (the seventh form; the later family's looks); each row that meets fmt, with fmt's text TOLD by the authors' own Lean function (tested against real Go, not proved from fmt's source: count such statements apart). THE CARD IS WHAT COUNTS. Prove the row's statement (the work); the ties are given (YtejgdchipppgeaaGreatDoorTie.lean); close each card by the builder's one call (the guide's Derived/Test/ToyasCard.lean, 'card_holds'). Laid BY PROGRAM, IN A SANDBOX (cutbox-door.mjs). By AI agents, Wed Nov 11 2026. No macro, syntax, notation, axiom, sorry.
-/
import Derived.Test.YtejgdchipppgeaaGreatDoorRows
import GoSem.ClaimSeven
namespace Go.Proofs.YtejgdchipppgeaaGreatDoor
namespace Rows

/-- THE TIED CARD OF 'tranterlaw15.PeerNone'. -/
def peerNoneCard : Claim7 := { stood := { row := peerNoneRow, standIns := [], harness := (true, "d68d618d023e1ef1d867c08fc623f2a576e22c1175cd4c0491373b363fcbe799"), looks := true }, kinds := [], alts := [], laidByText := true, laidKinds := [.data, .data, .data, .sentinel, .sentinel, .data], laidTests := true, laidLooks := .later }
def PeerNoneCardSaid : Prop := Claim7.holds Tryz.pinned (.plain (OpenSpec.ofChange peerNoneSpec)) peerNoneCard

/-- THE SECOND FORM's CARD OF 'tranterlaw15.PeerNone'. -/
def peerNoneUptoCard : Claim7 := { stood := { row := peerNoneUptoRow, standIns := [], harness := (true, "d68d618d023e1ef1d867c08fc623f2a576e22c1175cd4c0491373b363fcbe799"), looks := true }, kinds := [], alts := [], laidByText := true, laidKinds := [.data, .data, .data, .sentinel, .sentinel, .data], laidTests := true, laidLooks := .later }
def PeerNoneUptoCardSaid : Prop := Claim7.holds Tryz.pinned (.plain (OpenSpec.upto peerNoneSpec)) peerNoneUptoCard
end Rows
end Go.Proofs.YtejgdchipppgeaaGreatDoor
