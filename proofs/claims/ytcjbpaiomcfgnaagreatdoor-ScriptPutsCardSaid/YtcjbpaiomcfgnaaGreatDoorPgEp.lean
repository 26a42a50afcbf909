/- ScriptPuts, ScriptGets: calls and loops, as they are told. -/
import Derived.Test.YtcjbpaiomcfgnaaGreatDoorGpp
import Derived.Test.YtcjbpaiomcfgnaaGreatDoorRows
namespace Go.Proofs.YtcjbpaiomcfgnaaGreatDoor
open Go
def wr1 (t : Tm) : Tr AObj := ofL [.cells [.sslice 1 (LEN t) (.u 2 0), .bool true] 107 none, .row t 5 (some 2)] 0 .e
def wr0 : Tr AObj := ofL [.cells [.nslice, .bool true] 107 none] 0 .e
def wr2 (i : Nat) (t : Tm) : Tr AObj := ofH [(0, .cells [.sslice i (LEN t) (.u (i + 1) 0), .bool true] 107 none), (i, .row t 5 (some (i + 1)))] .e
def num1 : Ent := ⟨42, [.ptr 0 0, .sym .u64 (.x 1)], ⟨wr1 (.x 0), 3, [], ⟨[], small (.x 0) :: rngF (.x 1) .u64⟩⟩, [⟨.ret, undA, .e, [], ⟨wr2 3 (CAT (.x 0) (NUM (.x 1))), 5, [0, 1], ⟨[], []⟩⟩⟩]⟩
def num0 : Ent := ⟨42, [.ptr 0 0, .sym .u64 (.x 1)], ⟨wr0, 1, [], ⟨[], rngF (.x 1) .u64⟩⟩, [⟨.ret, undA, .e, [], ⟨wr2 1 (NUM (.x 1)), 3, [0], ⟨[], []⟩⟩⟩]⟩
def actA (b : Nat) : List AV := symsK ks b ++ [.deep 89 (.x (b + 20)), .sym .u8 (.x (b + 21)), .sym .u32 (.x (b + 22))]
def reqA (b : Nat) : List AV := symsK (ks.drop 3) (b + 3) ++ [.deep 89 (.x (b + 20))]
def askLoop : LEnt := ⟨(32, [false, true, false, true, true]), none, 122, ofS [(2, .ptr 0 0), (3, .ptr 1 0), (5, .sym .i64 (.x 60))] .e,
  ⟨ofL [.cells (reqA 0) 45 none, .cells (reqA 30) 45 none] 0 .e, 2, [], ⟨[], [(PREF (.x 20) (.x 50) (.x 60), true), ge0 (.x 60), leLen (.x 60) (.x 20), neLen (.x 20) (.x 50), le300 (.x 20), ge0 (LEN (.x 50))]⟩⟩,
  [⟨.exit 0, undA, ofS [] .e, [], ⟨ofL [.cells (reqA 0) 45 none, .cells (reqA 30) 45 none] 0 .e, 2, [], ⟨[], [(SAMEL (.x 20) (.x 50), true)]⟩⟩⟩,
   ⟨.ret, undA, ofS [(4, .bool false)] .e, [], ⟨ofL [.cells (reqA 0) 45 none, .cells (reqA 30) 45 none] 0 .e, 2, [], ⟨[], [(SAMEL (.x 20) (.x 50), false)]⟩⟩⟩]⟩
def ask : Ent := ⟨32, [.agg (reqA 0), .agg (reqA 30)], ⟨.e, 0, [], ⟨[], reqHs 0 ++ reqHs 30⟩⟩, [⟨.ret, .symB (SAMEQ (reqT 0 ++ reqT 30)), .e, [], ⟨.e, 0, [], ⟨[], []⟩⟩⟩]⟩
def putLoop : LEnt := ⟨(18, [false, true, false, true, true, true, true, true, true, true, true, true, true]), none, 92, ofS [(0, .ptr 0 0), (3, .ptr 3 0), (73, .deep 89 (.x 1)), (74, .sym .i64 (LEN (.x 1))), (75, .sym .i64 (.x 2))] .e,
  ⟨wr1 (.x 0), 4, [], ⟨[], [ge0 (.x 2), leLen (.x 2) (.x 1), le300 (.x 1), (lim36 (.x 0) (.x 2), true)]⟩⟩,
  [⟨.exit 0, undA, ofS [(0, .ptr 0 0), (3, .ptr 3 0)] .e, [], ⟨wr1 (.x 0), 4, [], ⟨[], [ltLen (.x 2) (.x 1) false]⟩⟩⟩,
   ⟨.exit 0, undA, ofS [(0, .ptr 0 0), (3, .ptr 3 0)] .e, [], ⟨wr2 4 (CAT (.x 0) (LINES (.x 1) (.x 2))), 6, [0, 1], ⟨[], [ltLen (.x 2) (.x 1) true]⟩⟩⟩]⟩
def put1 : Ent := ⟨18, [.ptr 0 0, .agg (actA 1)], ⟨wr1 (.x 0), 3, [], ⟨[], (.bin .leq .i64 (LEN (.x 0)) (.c 100000), true) :: geK .u64 (.x 13) :: leK .u64 (.x 13) :: (rowHs (.x 21) ++ actRg 1)⟩⟩, [⟨.ret, undA, .e, [], ⟨wr2 3 (CAT (.x 0) (ACT (actT 1))), 5, [0, 1], ⟨[], []⟩⟩⟩]⟩
def rt0 : List TypeId := [5, 89, 47]
def rd (s r : Tm) : AObj := .cells [.symS s, .sym .i64 (ATR r), .symB (OKR r)] 118 none
def rnumW : Ent := ⟨25, [.ptr 0 0, .sym .u64 (.x 2)], ⟨ofL [rd (.x 0) (.x 1)] 0 .e, 1, [], ⟨[], sz4 (.x 0) :: rngF (.x 2) .u64⟩⟩, [⟨.ret, .sym .u64 (VAL (.x 0) (.x 1) (.x 2)), .e, [], ⟨ofL [rd (.x 0) (STEP (.x 0) (.x 1) (.x 2))] 0 .e, 1, [0], ⟨[], []⟩⟩⟩]⟩
def dq (n : Tm) : Tm := .bin .quo .u64 n (.c 256)
def db (n : Tm) : Tm := BYTES [.conv .u8 (.bin .rem .u64 n (.c 256))]
def dz (n : Tm) (b : Bool) : Tm × Bool := (.bin .eql .u64 n (.c 0), b)
def digT (n : Tm) : Nat → Tm
 | 0 => BYTES []
 | 1 => db n
 | j + 2 => CAT (digT (dq n) (j + 1)) (db n)
def digPc (n : Tm) : Nat → Nat → List (Tm × Bool)
 | 0, _ => []
 | _ + 1, 0 => [dz n true]
 | k + 1, j + 1 => dz n false :: digPc (dq n) k j
def digV : Nat → AV
 | 0 => .str []
 | j + 1 => .symS (digT (.x 1) (j + 1))
def dgE (k : Nat) : Ent := ⟨67, [.sym .u64 (.x 1)], ⟨.e, 0, [], ⟨[], [geK .u64 (.x 1), (.bin .leq .u64 (.x 1) (.c (256 ^ k - 1)), true)]⟩⟩, (List.range (k + 1)).map fun j => ⟨.ret, digV j, .e, [], ⟨.e, 0, [], ⟨[], digPc (.x 1) k j⟩⟩⟩⟩
def rnum : Ent := ⟨48, [.sym .u64 (.x 1)], ⟨.e, 0, [], ⟨[], rngF (.x 1) .u64⟩⟩, [⟨.ret, .symS (NUM (.x 1)), .e, [], ⟨.e, 0, [], ⟨[], []⟩⟩⟩]⟩
def dotV (s r : Tm) : AV := .agg [.sym .u8 (DR s r), .sym .u32 (DN s r)]
def rdotW : Ent := ⟨29, [.ptr 0 0], ⟨ofL [rd (.x 0) (.x 1)] 0 .e, 1, [], ⟨[], [sz4 (.x 0)]⟩⟩, [⟨.ret, dotV (.x 0) (.x 1), .e, [], ⟨ofL [rd (.x 0) (DST (.x 0) (.x 1))] 0 .e, 1, [0], ⟨[], []⟩⟩⟩]⟩
def opn : Ent := ⟨23, [.symS (.x 0)], ⟨.e, 0, [], ⟨[], []⟩⟩, [⟨.ret, .ptr 0 0, .e, [], ⟨ofL [rd (.x 0) (.c 0)] 0 .e, 1, [], ⟨[], []⟩⟩⟩]⟩
def actL (b : Nat) (v d1 d2 : AV) : AObj := .cells (symsK ks b ++ [v, d1, d2]) 47 none
def lnSt (l : AV) (r : Tm) (rows : List (Nat × AObj)) : Tr AObj := ofH ([(0, .cells [.ptr 1 0] 80 none), (1, rd (.x 0) r), (2, actL 40 l (.int .u8 0) (.int .u32 0))] ++ rows) .e
def rowC (i : Nat) (t : Tm) : List (Nat × AObj) := [(i, .row t 89 (some (i + 1)))]
def slC (i : Nat) (t : Tm) : AV := .sslice i (LEN t) (.u (i + 1) 0)
def linesW : LEnt := ⟨(28, [false, true, false, true, true, true, true, true, true, true, true, true]), none, 108, ofS [(3, .ptr 0 0), (4, .ptr 2 0), (5, .ptr 2 3), (6, .sym .u64 (.x 2))] .e,
  ⟨lnSt (slC 3 (.x 3)) (.x 1) (rowC 3 (.x 3)), 5, [], ⟨[], sz4 (.x 0) :: here (.x 1) :: ISL (.x 3) :: leN (.x 2) 16 :: leL (.x 3) 16 :: cntL (.x 3) (.x 2) 16 :: rngF (.x 2) .u64⟩⟩,
  [⟨.exit 0, undA, ofS [(3, .ptr 0 0), (4, .ptr 2 0)] .e, [], ⟨lnSt (slC 3 (.x 3)) (LST (.x 0) (.x 1) (.x 2)) (rowC 3 (.x 3)), 5, [1, 2], ⟨[], [gt0 (.x 2) false]⟩⟩⟩,
   ⟨.exit 0, undA, ofS [(3, .ptr 0 0), (4, .ptr 2 0)] .e, [], ⟨lnSt (slC 5 (ofN 7)) (LST (.x 0) (.x 1) (.x 2)) (rowC 5 (ofN 7)), 8, [1, 2, 3, 4], ⟨[], [gt0 (.x 2) true, (LAPP (.x 0) (.x 1) (.x 2) (.x 3) (ofN 7), true), leL (ofN 7) 16]⟩⟩⟩]⟩
def actArgs : List AV := [.ptr 0 0, .ptr 1 0, .ptr 2 0, .ptr 3 0]
def actSt (r : Tm) : Tr AObj := ofL [.cells [.func (.func 26) [] [.ptr 3 0]] 84 none, .cells [.func (.func 24) [] [.ptr 3 0]] 83 none, .cells [.func (.func 27) [] [.ptr 3 0]] 85 none, .cells [.ptr 4 0] 80 none, rd (.x 0) r] 0 .e
def actCells (r : Tm) (l : AV) : List AV := (ks.zipIdx.map fun (k, j) => AV.sym k (ACELL (.x 0) r j)) ++ [l, .sym .u8 (ACELL (.x 0) r 21), .sym .u32 (ACELL (.x 0) r 22)]
def actW : Ent := ⟨28, actArgs, ⟨actSt (.x 1), 5, [], ⟨[], [sz4 (.x 0), here (.x 1)]⟩⟩, [⟨.ret, .agg (actCells (.x 1) (.deep 89 (ofN 5))), .e, [], ⟨actSt (AST (.x 0) (.x 1)), 6, [4], ⟨[], [(LOK (.x 0) (.x 1) (ofN 5), true)]⟩⟩⟩]⟩
def cellsP : AObj := .cells (symsK [.i64, .i64, .i64, .i64] 70) 23 none
def zeroP : AObj := .cells [.int .i64 0, .int .i64 0, .int .i64 0, .int .i64 0] 23 none
def getSt (r : Tm) (rows : List (Nat × AObj)) : Tr AObj := ofH ([(0, .cells [.ptr 1 0] 80 none), (1, rd (.x 0) r), (2, .cells [.func (.func 26) [] [.ptr 0 0]] 84 none), (3, .cells [.func (.func 24) [] [.ptr 0 0]] 83 none), (4, .cells [.func (.func 27) [] [.ptr 0 0]] 85 none), (5, cellsP), (6, zeroP)] ++ rows) .e
def rowG (i : Nat) (t : Tm) : List (Nat × AObj) := [(i, .row t 47 (some (i + 1)))]
def getT (l : AV) (b : Bool) : Tr AV := ofS ([(2, .ptr 6 0), (5, .ptr 0 0), (10, .ptr 5 0), (11, l)] ++ (match b with | true => [(9, .func (.func 28) [] [.ptr 2 0, .ptr 3 0, .ptr 4 0, .ptr 0 0]), (12, .sym .u64 (.x 2))] | false => [])) .e
def actsW : LEnt := ⟨(10, [false, true, false, true, true, true, true, true, true, true, true]), none, 52, getT (slC 7 (.x 3)) true,
  ⟨getSt (.x 1) (rowG 7 (.x 3)), 9, [], ⟨[], sz4 (.x 0) :: here (.x 1) :: ISL (.x 3) :: leN (.x 2) 4096 :: leL (.x 3) 4096 :: cntL (.x 3) (.x 2) 4096 :: rngF (.x 2) .u64⟩⟩,
  [⟨.exit 0, undA, getT (slC 7 (.x 3)) false, [], ⟨getSt (AEND (.x 0) (.x 1) (.x 2)) (rowG 7 (.x 3)), 9, [1], ⟨[], [gt0 (.x 2) false]⟩⟩⟩,
   ⟨.exit 0, undA, getT (slC 7 (.x 3)) false, [], ⟨getSt (AEND (.x 0) (.x 1) (.x 2)) (rowG 7 (.x 3)), 9, [1], ⟨[], [gt0 (.x 2) true, (OKR (.x 1), false)]⟩⟩⟩,
   ⟨.exit 0, undA, getT (slC 9 (ofN 11)) false, [], ⟨getSt (AEND (.x 0) (.x 1) (.x 2)) (rowG 9 (ofN 11)), 12, [1, 7, 8], ⟨[], [gt0 (.x 2) true, (OKR (.x 1), true), (AAPP (.x 0) (.x 1) (.x 2) (.x 3) (ofN 11), true), leL (ofN 11) 4096]⟩⟩⟩]⟩
def planV (s : Tm) : AV := .agg ((List.range 4).map fun j => .sym .i64 (PL s j))
def planZ : AV := .agg [.int .i64 0, .int .i64 0, .int .i64 0, .int .i64 0]
def getW : Ent := ⟨10, [.symS (.x 0)], ⟨.e, 0, [], ⟨[], [sz4 (.x 0), STR (.x 0)]⟩⟩, [⟨.ret, .tup [planZ, .nslice, .int .i64 5], .e, [], ⟨.e, 0, [], ⟨[], [(GOOD (.x 0), false)]⟩⟩⟩,
 ⟨.ret, .tup [planV (.x 0), .deep 47 (ofN 0), .int .i64 0], .e, [], ⟨.e, 1, [], ⟨[], [(GOOD (.x 0), true), (ISACTS (.x 0) (ofN 0), true)]⟩⟩⟩]⟩
def deepA (i : Nat) : AV := .deep 47 (.x i)
def planA (b : Nat) : AV := .agg [.sym .i64 (.x b), .sym .i64 (.x (b + 1)), .sym .i64 (.x (b + 2)), .sym .i64 (.x (b + 3))]
def rowP (l : Tm) : List (Tm × Bool) := [sz l, isRow l]
def idxT (f : Nat) (i : AV) : Tr AV := ofS [(0, deepA 1), (1, .func (.func f) [] []), (6, deepA 1), (7, .sym .i64 (LEN (.x 1))), (8, i)] .e
def idxE (f : Nat) (A : Tm → Tm) (N : Tm → Tm → Tm) : LEnt := ⟨(63, [false, true, false, true]), none, 19, idxT f (.sym .i64 (.x 2)),
  ⟨.e, 0, [], ⟨[], (N (.x 1) (.x 2), true) :: plc (.x 1) (.x 2)⟩⟩,
  [⟨.exit 0, undA, .e, [], ⟨.e, 0, [], ⟨[], [(A (.x 1), false)]⟩⟩⟩,
   ⟨.ret, undA, ofS [(4, .sym .i64 (ofN 0))] .e, [], ⟨.e, 1, [], ⟨[], [(A (.x 1), true), ge0 (ofN 0)]⟩⟩⟩]⟩
def idxL : LEnt := idxE 39 ANYL NOTL
def idxF : LEnt := idxE 41 ANYT NOTT
def contE (f : Nat) (A : Tm → Tm) : Ent := ⟨38, [deepA 1, .func (.func f) [] []], ⟨.e, 0, [], ⟨[], rowP (.x 1)⟩⟩, [⟨.ret, .symB (A (.x 1)), .e, [], ⟨.e, 0, [], ⟨[], []⟩⟩⟩]⟩
def contL : Ent := contE 39 ANYL
def contF : Ent := contE 41 ANYT
def rngP (b : Nat) : List (Tm × Bool) := rngL [.i64, .i64, .i64, .i64] b
def mayW : Ent := ⟨15, [planA 4, deepA 1], ⟨.e, 0, [], ⟨[], rowP (.x 1) ++ rngP 4⟩⟩, [⟨.ret, .sym .i64 (MAYF (planT 4) (.x 1)), .e, [], ⟨.e, 0, [], ⟨[], []⟩⟩⟩]⟩
def planC (b : Nat) : AObj := .cells [.sym .i64 (.x b), .sym .i64 (.x (b + 1)), .sym .i64 (.x (b + 2)), .sym .i64 (.x (b + 3))] 23 none
def mayE (z : List Bool) (x j : Nat) (e : Int) (A : Tm → Tm) (N : Tm → Tm → Tm) : LEnt := ⟨(20, z), none, 59, ofS [(0, planA 4), (1, deepA 1), (2, .ptr 0 0), (j, .sym .i64 (.x 2))] .e,
  ⟨ofL [planC 4] 0 .e, 1, [], ⟨[], (N (.x 1) (.x 2), true) :: plc (.x 1) (.x 2)⟩⟩,
  [⟨.exit x, undA, ofS [(0, planA 4), (1, deepA 1), (2, .ptr 0 0)] .e, [], ⟨ofL [planC 4] 0 .e, 1, [], ⟨[], [(A (.x 1), false)]⟩⟩⟩,
   ⟨.ret, undA, ofS [(4, .int .i64 e)] .e, [], ⟨ofL [planC 4] 0 .e, 1, [], ⟨[], [(A (.x 1), true)]⟩⟩⟩]⟩
def mrA : LEnt := mayE [false, true, false, true, true] 0 5 3 ANYL NOTL
def mrB : LEnt := mayE [false, true, false, true, true, true, true] 2 6 2 ANYT NOTT
def mayR : Ent := { mayW with f := 20 }
def putsT : List (Nat × AV) := [(7, .ptr 0 0)]
def putsL : LEnt := ⟨(8, [false, true, false, true, true, true, true]), none, 42, ofS (putsT ++ [(30, deepA 1), (31, .sym .i64 (LEN (.x 1))), (32, .sym .i64 (.x 2))]) .e,
  ⟨wr1 (.x 0), 3, [], ⟨[], plc (.x 1) (.x 2) ++ [noL (.x 1), RSM (.x 0) (.x 1) (.x 2), le9 (.x 0)]⟩⟩,
  [⟨.exit 0, undA, ofS putsT .e, [], ⟨wr1 (.x 0), 3, [], ⟨[], [ltLen (.x 2) (.x 1) false]⟩⟩⟩,
   ⟨.exit 0, undA, ofS putsT .e, [], ⟨wr2 3 (CAT (.x 0) (ENCF (.x 1) (.x 2))), 5, [0, 1], ⟨[], [ltLen (.x 2) (.x 1) true]⟩⟩⟩]⟩
def putE (f : Nat) : Ent := ⟨f, [planA 4, deepA 1], ⟨.e, 0, [], ⟨[], rowP (.x 1) ++ rngP 4 ++ [RST0 (.x 1)]⟩⟩,
  [⟨.ret, .tup [.str [], .sym .i64 (MAYF (planT 4) (.x 1))], .e, [], ⟨.e, 0, [], ⟨[], [((okM (planT 4) (.x 1)).1, true)]⟩⟩⟩,
   ⟨.ret, .tup [.symS (SCR (planT 4) (.x 1)), .int .i64 0], .e, [], ⟨.e, 0, [], ⟨[], [okM (planT 4) (.x 1), leScr (planT 4) (.x 1)]⟩⟩⟩]⟩
def putW : Ent := putE 8
def putR : Ent := putE 9
def aSt : Tr AObj := ofL [.cells (actA 30) 47 none, .cells (symsK (ks.drop 3) 60 ++ [.deep 89 (.x 1)]) 45 none] 0 .e
def aT (t : Tm) : List (Nat × AV) := [(1, .ptr 0 0), (3, .ptr 1 0), (4, .symS t)]
def actLL : LEnt := ⟨(22, [false, true, false, true, true, true]), none, 100, ofS (aT (.x 0) ++ [(5, .sym .i64 (.x 2))]) .e,
  ⟨aSt, 2, [], ⟨[], [ge0 (.x 2), leLen (.x 2) (.x 1), le300 (.x 1), (lim36 (.x 0) (.x 2), true)]⟩⟩,
  [⟨.exit 0, undA, ofS (aT (.x 0)) .e, [], ⟨aSt, 2, [], ⟨[], [ltLen (.x 2) (.x 1) false]⟩⟩⟩,
   ⟨.exit 0, undA, ofS (aT (CAT (.x 0) (LINES (.x 1) (.x 2)))) .e, [], ⟨aSt, 2, [], ⟨[], [ltLen (.x 2) (.x 1) true]⟩⟩⟩]⟩
def actP : Ent := ⟨22, [.agg (actA 1)], ⟨.e, 0, [], ⟨[], geK .u64 (.x 13) :: leK .u64 (.x 13) :: (rowHs (.x 21) ++ actRg 1)⟩⟩, [⟨.ret, .symS (ACT (actT 1)), .e, [], ⟨.e, 0, [], ⟨[], []⟩⟩⟩]⟩
def putsRT (t : Tm) : List (Nat × AV) := [(1, deepA 1), (7, .symS t)]
def putsR : LEnt := ⟨(9, [false, true, false, true, true, true, true]), none, 46, ofS (putsRT (.x 0) ++ [(8, .sym .i64 (.x 2))]) .e,
  ⟨.e, 0, [], ⟨[], plc (.x 1) (.x 2) ++ [noL (.x 1), RSM (.x 0) (.x 1) (.x 2), le9 (.x 0)]⟩⟩,
  [⟨.exit 0, undA, ofS (putsRT (.x 0)) .e, [], ⟨.e, 0, [], ⟨[], [ltLen (.x 2) (.x 1) false]⟩⟩⟩,
   ⟨.exit 0, undA, ofS (putsRT (CAT (.x 0) (ENCF (.x 1) (.x 2)))) .e, [], ⟨.e, 0, [], ⟨[], [ltLen (.x 2) (.x 1) true]⟩⟩⟩]⟩
def sameL : LEnt := ⟨(11, [false, true, false, true, true]), none, 81, ofS [(0, deepA 1), (1, deepA 2), (5, .sym .i64 (.x 3))] .e,
  ⟨.e, 0, [], ⟨[], (PRE2 (.x 1) (.x 2) (.x 3), true) :: plc (.x 1) (.x 3) ++ rowP (.x 2) ++ [neLen (.x 1) (.x 2), noL (.x 1), noL (.x 2)]⟩⟩,
  [⟨.exit 0, undA, .e, [], ⟨.e, 0, [], ⟨[], [(SAMEALL (.x 1) (.x 2), true)]⟩⟩⟩,
   ⟨.ret, undA, ofS [(4, .bool false)] .e, [], ⟨.e, 0, [], ⟨[], [(SAMEALL (.x 1) (.x 2), false)]⟩⟩⟩]⟩
def sameE : Ent := ⟨11, [deepA 1, deepA 2], ⟨.e, 0, [], ⟨[], rowP (.x 1) ++ rowP (.x 2) ++ [noL (.x 1), noL (.x 2)]⟩⟩, [⟨.ret, .symB (SAMEALL (.x 1) (.x 2)), .e, [], ⟨.e, 0, [], ⟨[], []⟩⟩⟩]⟩
def greatL : LEnt := ⟨(6, [false, true, false, true, true]), none, 27, ofS [(0, deepA 1), (3, .sym .i64 (.x 3)), (4, .sym .i64 (.x 2))] .e,
 ⟨.e, 0, [], ⟨[], plc (.x 1) (.x 2) ++ rngF (.x 3) .i64⟩⟩,
 [⟨.exit 0, undA, ofS [(0, deepA 1), (3, .sym .i64 (GADD (.x 3) (.x 1) (.x 2)))] .e, [], ⟨.e, 0, [], ⟨[], []⟩⟩⟩]⟩
def gsF (l : Tm) : List (Tm × Bool) := [(.bin .gtr .i64 (LEN l) (.c 100), false), (.bin .gtr .i64 (GADD (.c 0) l (.c 0)) (.c 300), false)]
def greatE : Ent := ⟨6, [deepA 1], ⟨.e, 0, [], ⟨[], rowP (.x 1)⟩⟩, [⟨.ret, .bool true, .e, [], ⟨.e, 0, [], ⟨[], []⟩⟩⟩, ⟨.ret, .bool false, .e, [], ⟨.e, 0, [], ⟨[], gsF (.x 1)⟩⟩⟩]⟩
end Go.Proofs.YtcjbpaiomcfgnaaGreatDoor
