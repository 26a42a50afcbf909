/-
  No cell of these rows narrows 'for every input' (looked for: loops, veiled, ifaces, maps, wideKeys, modest, calm, conditions, laid).
  DERIVED. THE GIVEN ROWS OF THIS SEAT. 4 by the template 'for every input the law returns true; each argument reads behind the call as it read before'; 0 by the template 'total and deterministic' (their statements: YtfdgflhbooaomaaTotals.lean).
  GIVEN WITH THE SEED: the statements are not yours to turn. If you find one false, say at which input.
  Laid BY PROGRAM, IN A SANDBOX (cutbox-rows.mjs): the forced cells as the released guide's own fill.sh prints them over the translation fb2cd1e1f5d42905… (all of the seat's roots in one cut). By AI agents, Wed Nov 11 2026. No macro, syntax, notation, axiom, sorry.
-/
import Derived.Test.YtfdgflhbooaomaaChecked
import GoSem.Claim
import GoSem.ClaimJoined
import GoSem.ClaimMapViews
import Derived.JoinedTies
import Derived.KernelRfl
namespace Go.Proofs.Ytfdgflhbooaomaa
/- THE CELL 'sum', in the pinned program and in every row, IS THE sha256 OF THE DUMP (.gsa) THAT YtfdgflhbooaomaaProg.lean LOADS. Nothing in Lean hashes anything: it is a label: what it is worth is what the hold of that sum in a sandbox is worth. -/
noncomputable def Try.pinned : Pinned := { name := "ytfdgflhbooaomaa", sum := "fb2cd1e1f5d42905aef7370010830d205b56987c994369521c675e16772657c8", checked := Try.checked }
namespace Rows
def none {H : Type} : Left H := { results := [], args := [] }

/-- 'tranterlaw21.LineStays': WHATEVER THE INPUT: true; the input reads as it did. -/
def lineStaysSpec : ChangeSpec := { name := "lineStays", fn := fun _ => fun
  | [d1, d2] => { results := [.lit (.bool true)], args := [d1, d2] }
  | _ => none }
def lineStaysRow : OpenClaim := { program := "ytfdgflhbooaomaa", sum := "fb2cd1e1f5d42905aef7370010830d205b56987c994369521c675e16772657c8", func := "tranter/tranterlaw21.LineStays", spec := "lineStays", inPlace := ["slices.overlaps[uint32]"], unfollowed := true, recurses := true, apart := false }
def LineStaysSaid : Prop := lineStaysRow.holds Try.pinned (OpenSpec.ofChange lineStaysSpec)

/-- ITS FALSE NEIGHBOUR: 'it returns false'. Refute it at one input. -/
def lineStaysWrong : ChangeSpec := { name := "lineStays", fn := fun _ => fun
  | [d1, d2] => { results := [.lit (.bool false)], args := [d1, d2] }
  | _ => none }
def LineStaysWrongFalsely : Prop := lineStaysRow.holds Try.pinned (OpenSpec.ofChange lineStaysWrong)

/-- 'tranterlaw21.LineOrder': WHATEVER THE INPUT: true; the input reads as it did. -/
def lineOrderSpec : ChangeSpec := { name := "lineOrder", fn := fun _ => fun
  | [d1, d2, d3] => { results := [.lit (.bool true)], args := [d1, d2, d3] }
  | _ => none }
def lineOrderRow : OpenClaim := { program := "ytfdgflhbooaomaa", sum := "fb2cd1e1f5d42905aef7370010830d205b56987c994369521c675e16772657c8", func := "tranter/tranterlaw21.LineOrder", spec := "lineOrder", inPlace := ["slices.overlaps[uint32]"], unfollowed := true, recurses := true, apart := false }
def LineOrderSaid : Prop := lineOrderRow.holds Try.pinned (OpenSpec.ofChange lineOrderSpec)

/-- ITS FALSE NEIGHBOUR: 'it returns false'. Refute it at one input. -/
def lineOrderWrong : ChangeSpec := { name := "lineOrder", fn := fun _ => fun
  | [d1, d2, d3] => { results := [.lit (.bool false)], args := [d1, d2, d3] }
  | _ => none }
def LineOrderWrongFalsely : Prop := lineOrderRow.holds Try.pinned (OpenSpec.ofChange lineOrderWrong)

/-- 'tranterlaw21.LineClaims': WHATEVER THE INPUT: true; the input reads as it did. -/
def lineClaimsSpec : ChangeSpec := { name := "lineClaims", fn := fun _ => fun
  | [d1, d2, d3] => { results := [.lit (.bool true)], args := [d1, d2, d3] }
  | _ => none }
def lineClaimsRow : OpenClaim := { program := "ytfdgflhbooaomaa", sum := "fb2cd1e1f5d42905aef7370010830d205b56987c994369521c675e16772657c8", func := "tranter/tranterlaw21.LineClaims", spec := "lineClaims", inPlace := ["slices.overlaps[uint32]"], unfollowed := true, recurses := true, apart := false }
def LineClaimsSaid : Prop := lineClaimsRow.holds Try.pinned (OpenSpec.ofChange lineClaimsSpec)

/-- ITS FALSE NEIGHBOUR: 'it returns false'. Refute it at one input. -/
def lineClaimsWrong : ChangeSpec := { name := "lineClaims", fn := fun _ => fun
  | [d1, d2, d3] => { results := [.lit (.bool false)], args := [d1, d2, d3] }
  | _ => none }
def LineClaimsWrongFalsely : Prop := lineClaimsRow.holds Try.pinned (OpenSpec.ofChange lineClaimsWrong)

/-- 'tranterlaw21.LineActs': WHATEVER THE INPUT: true; the input reads as it did. -/
def lineActsSpec : ChangeSpec := { name := "lineActs", fn := fun _ => fun
  | [d1, d2] => { results := [.lit (.bool true)], args := [d1, d2] }
  | _ => none }
def lineActsRow : OpenClaim := { program := "ytfdgflhbooaomaa", sum := "fb2cd1e1f5d42905aef7370010830d205b56987c994369521c675e16772657c8", func := "tranter/tranterlaw21.LineActs", spec := "lineActs", inPlace := ["slices.overlaps[uint32]"], unfollowed := true, recurses := true, apart := false }
def LineActsSaid : Prop := lineActsRow.holds Try.pinned (OpenSpec.ofChange lineActsSpec)

/-- ITS FALSE NEIGHBOUR: 'it returns false'. Refute it at one input. -/
def lineActsWrong : ChangeSpec := { name := "lineActs", fn := fun _ => fun
  | [d1, d2] => { results := [.lit (.bool false)], args := [d1, d2] }
  | _ => none }
def LineActsWrongFalsely : Prop := lineActsRow.holds Try.pinned (OpenSpec.ofChange lineActsWrong)

/- THE SECOND FORM. 'bulk': how many values and letters a reading holds, each counted each time it is reached (what is shared counts as often as it is met; a slice's spare places count too). A statement '..UptoSaid' is the law's where the arguments, and the package variables that the reading takes, are together of bulk at most 1048576: NARROWER than '..Said'. Prove '..Said' where nothing that the law and all that it calls make is longer than what came in: it says more and counts as full. Else prove '..UptoSaid'. A law counts once. -/
mutual
def uptoBulk {H : Type} : DataW H → Nat
  | .lit (.string bytes) => bytes.length + 1
  | .lit _ => 1
  | .nil => 1
  | .ptr d => uptoBulk d + 1
  | .slice elems spare => uptoBulkAll elems + uptoBulkAll spare + 1
  | .agg parts => uptoBulkAll parts + 1
  | .iface _ d => uptoBulk d + 1
  | .map entries => uptoBulkEntries entries + 1
  | .held _ => 1
def uptoBulkAll {H : Type} : List (DataW H) → Nat
  | [] => 0
  | d :: r => uptoBulk d + uptoBulkAll r
def uptoBulkEntries {H : Type} : List (Lit × DataW H) → Nat
  | [] => 0
  | x :: r => uptoBulkEntry x + uptoBulkEntries r
def uptoBulkEntry {H : Type} : Lit × DataW H → Nat
  | (.string bytes, d) => bytes.length + uptoBulk d + 1
  | (_, d) => uptoBulk d + 1
 end
def uptoSmall : (H : Type) → List (DataW H) → Bool := fun _ ds => decide (uptoBulkAll ds ≤ 1048576)
def OpenSpec.upto (s : _root_.Go.ChangeSpec) : _root_.Go.OpenSpec := { _root_.Go.OpenSpec.ofChange s with cond := some uptoSmall }

/-- 'tranterlaw21.LineStays', WHERE WHAT IT READS IS OF BULK AT MOST 1048576: true; the input reads as it did. -/
def lineStaysUptoRow : OpenClaim := { program := "ytfdgflhbooaomaa", sum := "fb2cd1e1f5d42905aef7370010830d205b56987c994369521c675e16772657c8", func := "tranter/tranterlaw21.LineStays", spec := "lineStays", inPlace := ["slices.overlaps[uint32]"], unfollowed := true, recurses := true, apart := false, narrowed := true }
def LineStaysUptoSaid : Prop := lineStaysUptoRow.holds Try.pinned (OpenSpec.upto lineStaysSpec)

/-- 'tranterlaw21.LineOrder', WHERE WHAT IT READS IS OF BULK AT MOST 1048576: true; the input reads as it did. -/
def lineOrderUptoRow : OpenClaim := { program := "ytfdgflhbooaomaa", sum := "fb2cd1e1f5d42905aef7370010830d205b56987c994369521c675e16772657c8", func := "tranter/tranterlaw21.LineOrder", spec := "lineOrder", inPlace := ["slices.overlaps[uint32]"], unfollowed := true, recurses := true, apart := false, narrowed := true }
def LineOrderUptoSaid : Prop := lineOrderUptoRow.holds Try.pinned (OpenSpec.upto lineOrderSpec)

/-- 'tranterlaw21.LineClaims', WHERE WHAT IT READS IS OF BULK AT MOST 1048576: true; the input reads as it did. -/
def lineClaimsUptoRow : OpenClaim := { program := "ytfdgflhbooaomaa", sum := "fb2cd1e1f5d42905aef7370010830d205b56987c994369521c675e16772657c8", func := "tranter/tranterlaw21.LineClaims", spec := "lineClaims", inPlace := ["slices.overlaps[uint32]"], unfollowed := true, recurses := true, apart := false, narrowed := true }
def LineClaimsUptoSaid : Prop := lineClaimsUptoRow.holds Try.pinned (OpenSpec.upto lineClaimsSpec)

/-- 'tranterlaw21.LineActs', WHERE WHAT IT READS IS OF BULK AT MOST 1048576: true; the input reads as it did. -/
def lineActsUptoRow : OpenClaim := { program := "ytfdgflhbooaomaa", sum := "fb2cd1e1f5d42905aef7370010830d205b56987c994369521c675e16772657c8", func := "tranter/tranterlaw21.LineActs", spec := "lineActs", inPlace := ["slices.overlaps[uint32]"], unfollowed := true, recurses := true, apart := false, narrowed := true }
def LineActsUptoSaid : Prop := lineActsUptoRow.holds Try.pinned (OpenSpec.upto lineActsSpec)

end Rows
end Go.Proofs.Ytfdgflhbooaomaa
