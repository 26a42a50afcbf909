/- The tie, facts 2: the kinds; what is named. -/
import Derived.Test.YtcjbpaiomcfgnaaGreatDoorRows
import Derived.LaidByTextLater
import Derived.SevenTiedAt
namespace Go.Proofs.YtcjbpaiomcfgnaaGreatDoor
open Go
def laidV : List (String × DataW Unit) := [("strconv.ErrSyntax", Rows.laid_strconv_ErrSyntax), ("strconv.ErrRange", Rows.laid_strconv_ErrRange), ("internal/strconv.uint64pow10", Rows.laid_internal_strconv_uint64pow10), ("math/bits.deBruijn32tab", Rows.laid_math_bits_deBruijn32tab), ("math/bits.deBruijn64tab", Rows.laid_math_bits_deBruijn64tab), ("tranter/op.kinds", Rows.laid_tranter_op_kinds)]
def kindsV : List LaidKind := [.sentinel, .sentinel, .data, .data, .data, .data]
theorem k_hk : laidV.map (fun x => Tryz.prog.kindOfLater x.1) = kindsV.map some := by kernel_rfl
theorem k_hp : (laidV.all fun x => x.2.handleName?.isNone) = true := by kernel_rfl
theorem k_hn : varsNamedLaterB Tryz.prog (varsId Tryz.prog) laidV = true := by kernel_rfl
end Go.Proofs.YtcjbpaiomcfgnaaGreatDoor
