/- ScriptSame: calls and loops, as they are told. -/
import Derived.Test.YtcjbpaiomcfgnaaGreatDoorGs
import Derived.Test.YtcjbpaiomcfgnaaGreatDoorRows
namespace Go.Proofs.YtcjbpaiomcfgnaaGreatDoor
open Go
/-- a writer that has bytes -/
def wr1 (t : Tm) : Tr AObj := ofL [.cells [.sslice 1 (LEN t) (.u 2 0), .bool true] 107 none, .row t 5 (some 2)] 0 .e
def wr0 : Tr AObj := ofL [.cells [.nslice, .bool true] 107 none] 0 .e
def wr2 (i : Nat) (t : Tm) : Tr AObj := ofH [(0, .cells [.sslice i (LEN t) (.u (i + 1) 0), .bool true] 107 none), (i, .row t 5 (some (i + 1)))] .e
def num1 : Ent := ⟨42, [.ptr 0 0, .sym .u64 (.x 1)], ⟨wr1 (.x 0), 3, [], ⟨[], small (.x 0) :: rngF (.x 1) .u64⟩⟩, [⟨.ret, undA, .e, [], ⟨wr2 3 (CAT (.x 0) (NUM (.x 1))), 5, [0, 1], ⟨[], []⟩⟩⟩]⟩
def num0 : Ent := ⟨42, [.ptr 0 0, .sym .u64 (.x 1)], ⟨wr0, 1, [], ⟨[], rngF (.x 1) .u64⟩⟩, [⟨.ret, undA, .e, [], ⟨wr2 1 (NUM (.x 1)), 3, [0], ⟨[], []⟩⟩⟩]⟩
def actA (b : Nat) : List AV := symsK ks b ++ [.deep 89 (.x (b + 20)), .sym .u8 (.x (b + 21)), .sym .u32 (.x (b + 22))]
def reqA (b : Nat) : List AV := symsK (ks.drop 3) (b + 3) ++ [.deep 89 (.x (b + 20))]
def askLoop : LEnt := ⟨(32, [false, true, false, true, true]), none, 122, ofS [(2, .ptr 0 0), (3, .ptr 1 0), (5, .sym .i64 (.x 60))] .e,
  ⟨ofL [.cells (reqA 0) 45 none, .cells (reqA 30) 45 none] 0 .e, 2, [], ⟨[], [(PREF (.x 20) (.x 50) (.x 60), true), ge0 (.x 60), leLen (.x 60) (.x 20), neLen (.x 20) (.x 50), le300 (.x 20), ge0 (LEN (.x 50))]⟩⟩,
  [⟨.exit 0, undA, ofS [] .e, [], ⟨ofL [.cells (reqA 0) 45 none, .cells (reqA 30) 45 none] 0 .e, 2, [], ⟨[], [(SAMEL (.x 20) (.x 50), true)]⟩⟩⟩,
   ⟨.ret, undA, ofS [(4, .bool false)] .e, [], ⟨ofL [.cells (reqA 0) 45 none, .cells (reqA 30) 45 none] 0 .e, 2, [], ⟨[], [(SAMEL (.x 20) (.x 50), false)]⟩⟩⟩]⟩
def ask : Ent := ⟨32, [.agg (reqA 0), .agg (reqA 30)], ⟨.e, 0, [], ⟨[], reqHs 0 ++ reqHs 30⟩⟩, [⟨.ret, .symB (SAMEQ (reqT 0 ++ reqT 30)), .e, [], ⟨.e, 0, [], ⟨[], []⟩⟩⟩]⟩
def acts : Ent := ⟨11, [.slice 0 0 1 (.k 1), .slice 1 0 1 (.k 1)], ⟨ofL [.cells (actA 0) 47 none, .cells (actA 30) 47 none] 0 .e, 2, [], ⟨[], actHs 0 ++ actHs 30⟩⟩, [⟨.ret, .symB (SAMEA (actT 0 ++ actT 30)), .e, [], ⟨ofL [.cells (actA 0) 47 none, .cells (actA 30) 47 none] 0 .e, 2, [], ⟨[], []⟩⟩⟩]⟩
def putLoop : LEnt := ⟨(18, [false, true, false, true, true, true, true, true, true, true, true, true, true]), none, 92, ofS [(0, .ptr 0 0), (3, .ptr 3 0), (73, .deep 89 (.x 1)), (74, .sym .i64 (LEN (.x 1))), (75, .sym .i64 (.x 2))] .e,
  ⟨wr1 (.x 0), 4, [], ⟨[], [ge0 (.x 2), leLen (.x 2) (.x 1), le300 (.x 1), (lim36 (.x 0) (.x 2), true)]⟩⟩,
  [⟨.exit 0, undA, ofS [(0, .ptr 0 0), (3, .ptr 3 0)] .e, [], ⟨wr1 (.x 0), 4, [], ⟨[], [ltLen (.x 2) (.x 1) false]⟩⟩⟩,
   ⟨.exit 0, undA, ofS [(0, .ptr 0 0), (3, .ptr 3 0)] .e, [], ⟨wr2 4 (CAT (.x 0) (LINES (.x 1) (.x 2))), 6, [0, 1], ⟨[], [ltLen (.x 2) (.x 1) true]⟩⟩⟩]⟩
def put1 : Ent := ⟨18, [.ptr 0 0, .agg (actA 1)], ⟨wr1 (.x 0), 3, [], ⟨[], (.bin .leq .i64 (LEN (.x 0)) (.c 10000), true) :: geK .u64 (.x 13) :: leK .u64 (.x 13) :: rowHs (.x 21)⟩⟩, [⟨.ret, undA, .e, [], ⟨wr2 3 (CAT (.x 0) (ACT (actT 1))), 5, [0, 1], ⟨[], []⟩⟩⟩]⟩
def put0 : Ent := ⟨18, [.ptr 0 0, .agg (actA 1)], ⟨wr0, 1, [], ⟨[], geK .u64 (.x 13) :: leK .u64 (.x 13) :: rowHs (.x 21)⟩⟩, [⟨.ret, undA, .e, [], ⟨wr2 1 (ACT (actT 1)), 3, [0], ⟨[], []⟩⟩⟩]⟩
/-- an act's data, at no time -/
def aT0 (b : Nat) : List Tm := (actT b).set 2 (.c 0)
def hs12 (b : Nat) : List (Tm × Bool) := geK .u64 (.x (b + 12)) :: leK .u64 (.x (b + 12)) :: rowHs (.x (b + 20))
def ouV (v : AV) (pc : List (Tm × Bool)) : Out := ⟨.ret, v, .e, [], ⟨.e, 0, [], ⟨[], pc⟩⟩⟩
def eqTxt : Tm := EQS (ACT (aT0 0)) (ACT (aT0 30))
def sameS : Ent := ⟨13, [.agg (actA 0), .agg (actA 30)], ⟨.e, 0, [], ⟨[], hs12 0 ++ hs12 30⟩⟩,
 [ouV (.bool false) [(.bin .eql .i64 (.x 2) (.x 32), false)], ouV (.symB eqTxt) [(.bin .eql .i64 (.x 2) (.x 32), true)]]⟩
def eqsT (a b : Tm) : List TEq := [⟨[(EQS a b, true)], EQS a b, .c 1⟩, ⟨[(EQS a b, false)], EQS a b, .c 0⟩]
def teqE : List TEq := teq0 ++ eqsT (ACT (aT0 0)) (ACT (aT0 30))
def oneAct : Tr AObj := ofL [.cells (actA 0) 47 none] 0 .e
def ouP (v : AV) (e : Int) : Out := ⟨.ret, .tup [v, .int .i64 e], .e, [], ⟨oneAct, 1, [], ⟨[], []⟩⟩⟩
def hdrA : Tm := CAT (CAT (CAT (CAT (CAT (NUM (.c 0)) (NUM (.c 0))) (NUM (.c 0))) (NUM (.c 0))) (NUM (.c 1))) (ACT (actT 0))
def putS : Ent := ⟨8, [.agg [.int .i64 0, .int .i64 0, .int .i64 0, .int .i64 0], .slice 0 0 1 (.k 1)], ⟨oneAct, 1, [], ⟨[], hs12 0⟩⟩, [ouP (.symS hdrA) 0, ouP (.str []) 2, ouP (.str []) 3]⟩
def actC (b : Nat) : List AV := symsC ks b ++ [.deep 89 (.x (b + 20)), .sym .u8 (.conv .u8 (.x (b + 21))), .sym .u32 (.conv .u32 (.x (b + 22)))]
def rt0 : List TypeId := [5]
end Go.Proofs.YtcjbpaiomcfgnaaGreatDoor
