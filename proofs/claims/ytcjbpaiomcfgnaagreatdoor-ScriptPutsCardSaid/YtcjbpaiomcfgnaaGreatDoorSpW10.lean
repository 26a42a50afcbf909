/- What ScriptPuts's card asks of the program: it starts nothing. -/
import Derived.Test.YtcjbpaiomcfgnaaGreatDoorRows
import Derived.JoinedOf
import Derived.SevenTiedAt
import Derived.Test.YtcjbpaiomcfgnaaGreatDoorCards
namespace Go.Proofs.YtcjbpaiomcfgnaaGreatDoor
open Go
theorem no_goes {P : Program} (h : P.funcs.any Func.goes = false) (f : FuncId) : P.goes f = false := by
 unfold Program.goes
 rw [h, Bool.and_false, Bool.or_false, List.any_eq_false]
 intro g _
 cases hg : P.funcs[g]? with
 | none => simp
 | some fn =>
  obtain ⟨hlt, he⟩ := Array.getElem?_eq_some_iff.1 hg
  have := Array.any_eq_false.1 h g hlt
  rw [he] at this
  simpa using this
theorem no_goesBy {P : Program} (h : P.funcs.any Func.goes = false) {c : OpenClaim} (hs : c.start = .entering) : false = c.goesBy P := by
 have h2 : P.goesFrom c.func = false := by
  unfold Program.goesFrom
  cases P.funcNamed c.func with
  | none => rfl
  | some f => exact no_goes h f
 unfold OpenClaim.goesBy Program.goesAt
 rw [h2, hs]
 rfl
theorem x_fg : Tryz.prog.funcs.any Func.goes = false := by kernel_rfl
theorem x_goes : false = Rows.scriptPutsRow.goesBy Tryz.prog := no_goesBy x_fg rfl
end Go.Proofs.YtcjbpaiomcfgnaaGreatDoor
