/- ScriptPuts, ScriptGets: terms; what is known of them. No program in sight. -/
import Derived.Test.YtcjbpaiomcfgnaaGreatDoorGsg
import Derived.Test.YtcjbpaiomcfgnaaGreatDoorGf
set_option linter.unusedVariables false
set_option linter.unusedSimpArgs false
namespace Go.Proofs.YtcjbpaiomcfgnaaGreatDoor
open Go
def STEP (s r m : Tm) : Tm := .f 110 [s, r, m]
def VAL (s r m : Tm) : Tm := .f 111 [s, r, m]
def ATR (r : Tm) : Tm := .f 112 [r]
def OKR (r : Tm) : Tm := .f 113 [r]
def RB (s r : Tm) : Tm := .f 114 [s, r]
def BYTE (s i : Tm) : Tm := .f 9 [s, i]
def PART (s i j : Tm) : Tm := .f 8 [s, i, j]
def sz4 (t : Tm) : Tm × Bool := (.bin .leq .i64 (LEN t) (.c 1000000000000000), true)
def gone (s k a : Tm) : Tm := .bin .gtr .i64 k (.bin .sub .i64 (LEN s) a)
def lemR1 (r : Tm) : Lem := ⟨[], .bin .leq .i64 (ATR r) (add1 (ATR r)), true⟩
def lemR2 (s r : Tm) : Lem := ⟨[(gone s (.c 1) (ATR r), false), sz4 s], .bin .leq .i64 (add1 (ATR r)) (LEN s), true⟩
def KB (s r : Tm) : Tm := .bin .sub .i64 (.conv .i64 (BYTE (PART s (ATR r) (add1 (ATR r))) (.c 0))) (.c 128)
def addI (a b : Tm) : Tm := .bin .add .i64 a b
def k18 (k : Tm) : List (Tm × Bool) := [(.bin .lss .i64 k (.c 1), false), (.bin .gtr .i64 k (.c 8), false)]
def lemR3 (s r : Tm) : Lem := ⟨k18 (KB s r), .bin .leq .i64 (add1 (ATR r)) (addI (add1 (ATR r)) (KB s r)), true⟩
def lemR4 (s r : Tm) : Lem := ⟨(gone s (KB s r) (add1 (ATR r)), false) :: sz4 s :: k18 (KB s r), .bin .leq .i64 (addI (add1 (ATR r)) (KB s r)) (LEN s), true⟩
def FB (s r : Tm) : Tm := .conv .i64 (BYTE (PART s (ATR r) (add1 (ATR r))) (.c 0))
def P1 (s r : Tm) : Tm := PART s (add1 (ATR r)) (addI (add1 (ATR r)) (KB s r))
def vt (s r : Tm) : Nat → Tm
 | 0 => .c 0
 | 1 => .bin .or .u64 (.c 0) (u64 (BYTE (P1 s r) (.c 0)))
 | j + 1 => .bin .or .u64 (u64 (.f 7 [vt s r j, .c 8])) (u64 (BYTE (P1 s r) (.c (.ofNat j))))
structure Way where
 hs : List (Tm × Bool)
 v : Tm
 a : Tm
 ok : Tm
def wayEqs (s r m : Tm) (w : Way) : List TEq := [⟨w.hs, VAL s r m, w.v⟩, ⟨w.hs, ATR (STEP s r m), w.a⟩, ⟨w.hs, OKR (STEP s r m), w.ok⟩]
def fine (r : Tm) : Tm × Bool := (OKR r, true)
def atMost (v m : Tm) (b : Bool) : Tm × Bool := (.bin .leq .u64 v m, b)
def small128 (s r : Tm) (b : Bool) : Tm × Bool := (.bin .lss .i64 (FB s r) (.c 128), b)
def hs1 (s r m : Tm) : List (Tm × Bool) := [fine r, sz4 s, geK .u64 m, (gone s (.c 1) (ATR r), false)]
def hs2 (s r m : Tm) : List (Tm × Bool) := small128 s r false :: hs1 s r m
def hs3 (s r m : Tm) (k : Nat) : List (Tm × Bool) := (gone s (KB s r) (add1 (ATR r)), false) :: k18 (KB s r) ++ hs2 s r m ++ (if k < 8 then [(.bin .lss .i64 (.c (.ofNat k)) (KB s r), false)] else []) ++ (if 2 ≤ k then [(.bin .lss .i64 (.c (.ofNat (k - 1))) (KB s r), true)] else [])
def ways3 (s r m : Tm) (k : Nat) : List Way :=
 let a := addI (add1 (ATR r)) (KB s r)
 let z := .bin .gtr .u8 (BYTE (P1 s r) (.c 0)) (.c 0)
 let g := .bin .geq .u64 (vt s r k) (.c 128)
 [⟨(z, false) :: hs3 s r m k, .c 0, a, .c 0⟩, ⟨(z, true) :: (g, false) :: hs3 s r m k, .c 0, a, .c 0⟩, ⟨(z, true) :: (g, true) :: atMost (vt s r k) m false :: hs3 s r m k, .c 0, a, .c 0⟩, ⟨(z, true) :: (g, true) :: atMost (vt s r k) m true :: hs3 s r m k, vt s r k, a, OKR r⟩]
def ways0 (s r m : Tm) : List Way :=
  let a := add1 (ATR r)
  [⟨[(OKR r, false), sz4 s, geK .u64 m], .c 0, ATR r, .c 0⟩, ⟨[fine r, sz4 s, geK .u64 m, (gone s (.c 1) (ATR r), true)], .c 0, ATR r, .c 0⟩,
   ⟨atMost (u64 (FB s r)) m false :: small128 s r true :: hs1 s r m, .c 0, a, .c 0⟩, ⟨atMost (u64 (FB s r)) m true :: small128 s r true :: hs1 s r m, u64 (FB s r), a, OKR r⟩,
   ⟨(.bin .lss .i64 (KB s r) (.c 1), true) :: hs2 s r m, .c 0, a, .c 0⟩, ⟨(.bin .gtr .i64 (KB s r) (.c 8), true) :: hs2 s r m, .c 0, a, .c 0⟩,
   ⟨(gone s (KB s r) (add1 (ATR r)), true) :: k18 (KB s r) ++ hs2 s r m, .c 0, a, .c 0⟩]
def ways (s r m : Tm) : List Way :=
 ways0 s r m ++ (ways3 s r m 1 ++ (ways3 s r m 2 ++ (ways3 s r m 3 ++ (ways3 s r m 4 ++ (ways3 s r m 5 ++ (ways3 s r m 6 ++ (ways3 s r m 7 ++ ways3 s r m 8)))))))
def quo (n : Tm) : Nat → Tm
 | 0 => n
 | j + 1 => .bin .quo .u64 (quo n j) (.c 256)
def dig (n : Tm) : Nat → Nat → Tm
 | 0, _ => .c 0
 | 1, j => BYTES [.conv .u8 (.bin .rem .u64 (quo n j) (.c 256))]
 | k + 1, j => CAT (dig n k (j + 1)) (BYTES [.conv .u8 (.bin .rem .u64 (quo n j) (.c 256))])
def rnHs (n : Tm) (k : Nat) : List (Tm × Bool) := (.bin .lss .u64 n (.c 128), false) :: (.bin .geq .u64 n (.c 0), true) :: (.bin .leq .u64 n (.c IntKind.u64.max), true) :: ((if k < 8 then [(.bin .eql .u64 (quo n k) (.c 0), true)] else []) ++ (if 2 ≤ k then [(.bin .eql .u64 (quo n (k - 1)) (.c 0), false)] else []))
def rnEq (n : Tm) (k : Nat) : TEq := ⟨rnHs n k, NUM n, CAT (BYTES [.conv .u8 (.bin .add .i64 (.c 128) (match k with | 1 => .c 1 | k => LEN (dig n k 0)))]) (dig n k 0)⟩
def rnEqs (n : Tm) : List TEq := [rnEq n 1, rnEq n 2, rnEq n 3, rnEq n 4, rnEq n 5, rnEq n 6, rnEq n 7, rnEq n 8]
def K2 (b : Tm) : Tm := .bin .sub .i64 (.conv .i64 (BYTE b (.c 0))) (.c 128)
def lemT1 (b : Tm) : Lem := ⟨[(.bin .lss .i64 (LEN b) (addI (.c 1) (K2 b)), false)], .bin .leq .i64 (addI (.c 1) (K2 b)) (LEN b), true⟩
def lemT2 (b : Tm) : Lem := ⟨[], .bin .leq .i64 (LEN b) (LEN b), true⟩
def nt (b : Tm) : Nat → Tm
 | 0 => .c 0
 | 1 => .bin .add .u64 (.c 0) (u64 (BYTE b (.c 1)))
 | j + 1 => .bin .add .u64 (.bin .mul .u64 (.c 256) (nt b j)) (u64 (BYTE b (.c (.ofNat (j + 1)))))
def takeEqs (s r m : Tm) (w : Way) : List TEq := [⟨w.hs, VAL s r m, w.v⟩, ⟨w.hs, RB s (STEP s r m), w.a⟩, ⟨w.hs, OKR (STEP s r m), w.ok⟩]
def nil0 : Tm := .f 3 []
def isNone (b : Tm) (z : Bool) : Tm × Bool := (.bin .eql .i64 (LEN b) (.c 0), z)
def long128 (b : Tm) (z : Bool) : Tm × Bool := (.bin .geq .u8 (BYTE b (.c 0)) (.c 128), z)
def tk3 (b m n j : Tm) (hs : List (Tm × Bool)) : List Way :=
 let e := EQS (NUM n) (PART b (.c 0) j)
 let g := .bin .gtr .u64 n m
 [⟨(e, false) :: hs, .c 0, nil0, .c 0⟩, ⟨(e, true) :: (g, true) :: hs, .c 0, nil0, .c 0⟩, ⟨(e, true) :: (g, false) :: hs, n, PART b j (LEN b), .c 1⟩]
def th1 (b : Tm) (z : List (Tm × Bool)) : List (Tm × Bool) := isNone b false :: z
def th2 (b : Tm) (z : List (Tm × Bool)) : List (Tm × Bool) := long128 b true :: th1 b z
def le1 (b : Tm) (k : Nat) (z : Bool) : Tm × Bool := (.bin .leq .i64 (.c (.ofNat k)) (K2 b), z)
def th3 (b : Tm) (z : List (Tm × Bool)) (k : Nat) : List (Tm × Bool) :=
 (if k < 8 then [le1 b (k + 1) false] else []) ++ (if 1 ≤ k then [le1 b k true] else []) ++ (.bin .lss .i64 (LEN b) (addI (.c 1) (K2 b)), false) :: (.bin .gtr .i64 (K2 b) (.c 8), false) :: th2 b z
def tk8 (b m : Tm) (z : List (Tm × Bool)) (k : Nat) : List Way := match k with
 | 0 => let j := addI (.c 1) (K2 b)
  let e := EQS (NUM (.c 0)) (PART b (.c 0) j)
  [⟨(e, false) :: th3 b z 0, .c 0, nil0, .c 0⟩, ⟨(e, true) :: th3 b z 0, .c 0, PART b j (LEN b), .c 1⟩]
 | k => tk3 b m (nt b k) (addI (.c 1) (K2 b)) (th3 b z k)
def takes (b m : Tm) (z : List (Tm × Bool)) : List Way :=
 [⟨isNone b true :: z, .c 0, nil0, .c 0⟩] ++ tk3 b m (u64 (BYTE b (.c 0))) (.c 1) (long128 b false :: th1 b z) ++
 [⟨(.bin .gtr .i64 (K2 b) (.c 8), true) :: th2 b z, .c 0, nil0, .c 0⟩, ⟨(.bin .lss .i64 (LEN b) (addI (.c 1) (K2 b)), true) :: (.bin .gtr .i64 (K2 b) (.c 8), false) :: th2 b z, .c 0, nil0, .c 0⟩] ++
 (tk8 b m z 0 ++ tk8 b m z 1 ++ tk8 b m z 2 ++ tk8 b m z 3 ++ tk8 b m z 4 ++ tk8 b m z 5 ++ tk8 b m z 6 ++ tk8 b m z 7 ++ tk8 b m z 8)
def takesR (s r m : Tm) : List Way := ⟨[(OKR r, false), sz4 s, geK .u64 m], .c 0, nil0, .c 0⟩ :: takes (RB s r) m [fine r, sz4 s, geK .u64 m]
def DR (s r : Tm) : Tm := .f 115 [s, r]
def DN (s r : Tm) : Tm := .f 116 [s, r]
def DST (s r : Tm) : Tm := .f 117 [s, r]
def st2 (s r : Tm) : Tm := STEP s (STEP s r (.c 255)) (.c 4294967295)
def dotEqs (s r : Tm) : List TEq := [⟨[], DST s r, st2 s r⟩, ⟨[(OKR (st2 s r), false)], DR s r, .c 0⟩, ⟨[(OKR (st2 s r), false)], DN s r, .c 0⟩,
 ⟨[(OKR (st2 s r), true)], DR s r, .conv .u8 (VAL s r (.c 255))⟩, ⟨[(OKR (st2 s r), true)], DN s r, .conv .u32 (VAL s (STEP s r (.c 255)) (.c 4294967295))⟩,
 ⟨[(OKR (st2 s r), false)], RB s (DST s r), nil0⟩, ⟨[(OKR (st2 s r), false)], OKR (DST s r), .c 0⟩]
def openEqs : List TEq := [⟨[], ATR (.c 0), .c 0⟩, ⟨[], OKR (.c 0), .c 1⟩]
def LST (s r n : Tm) : Tm := .f 120 [s, r, n]
def LAPP (s r n x y : Tm) : Tm := .f 122 [s, r, n, x, y]
def gt0 (n : Tm) (b : Bool) : Tm × Bool := (.bin .gtr .u64 n (.c 0), b)
def sub1 (n : Tm) : Tm := .bin .sub .u64 n (.c 1)
def leN (n : Tm) (m : Int) : Tm × Bool := (.bin .leq .u64 n (.c m), true)
def cntL (x n : Tm) (m : Int) : Tm × Bool := (.bin .leq .i64 (addI (LEN x) (.conv .i64 n)) (.c m), true)
def line1 (s r : Tm) : Tm := .f 11 [.f 13 [DR s r, DN s r, DR s (DST s r), DN s (DST s r)]]
def ofN (n : Nat) : Tm := .x (atoms0 + n)
def dst2 (s r : Tm) : Tm := DST s (DST s r)
def lemC1 (n : Tm) : Lem := ⟨[gt0 n true, geK .u64 n, leK .u64 n], .bin .leq .i64 (.c 0) (sub1 n), true⟩
def lemC2 (n : Tm) : Lem := ⟨[gt0 n true, geK .u64 n, leK .u64 n, (.bin .leq .i64 n lim, true)], .bin .lss .i64 (sub1 n) lim, true⟩
def lemC3 (n : Tm) (m : Int) : Lem := ⟨[gt0 n true, leN n m], (leN (sub1 n) m).1, true⟩
def lemC4 (x e n : Tm) (m : Int) : Lem := ⟨[gt0 n true, leN n m, cntL x n m], (cntL (CAT x e) (sub1 n) m).1, true⟩
def leL (x : Tm) (m : Int) : Tm × Bool := (.bin .leq .i64 (LEN x) (.c m), true)
def lemC5 (x e n : Tm) (m : Int) : Lem := ⟨[gt0 n true, leN n m, cntL x n m, leL x m], (leL (CAT x e) m).1, true⟩
def ISL (x : Tm) : Tm × Bool := (.f 123 [x], true)
def here (r : Tm) : Tm × Bool := ge0 (OKR r)
def lemC6 (x e : Tm) : Lem := ⟨[ISL x], (ISL (CAT x e)).1, true⟩
def lemPg : List Lem := [lemT2 (RB (.x 0) (.x 1)), lemR1 (.x 1), lemR2 (.x 0) (.x 1), lemR3 (.x 0) (.x 1), lemR4 (.x 0) (.x 1), lemT1 (RB (.x 0) (.x 1)), lemT2 (.x 0), lemT1 (.x 0)]
def lemLn : List Lem := [lemC1 (.x 2), lemC2 (.x 2), lemC3 (.x 2) 16, lemC4 (.x 3) (line1 (.x 0) (.x 1)) (.x 2) 16, lemC5 (.x 3) (line1 (.x 0) (.x 1)) (.x 2) 16, lemC6 (.x 3) (line1 (.x 0) (.x 1))]
def lemDL1 (s r n x : Tm) : Lem := ⟨[gt0 n true, leN n 16, gt0 (sub1 n) false, ISL x, here r, sz4 s], LAPP s r n x (CAT x (line1 s r)), true⟩
def lemDL2 (s r n x : Tm) : Lem := ⟨[gt0 n true, leN n 16, cntL x n 16, leL x 16, ISL x, here r, sz4 s], (leL (CAT x (line1 s r)) 16).1, true⟩
def lemDL3 (s r n x y : Tm) : Lem := ⟨[gt0 n true, leN n 16, (LAPP s (dst2 s r) (sub1 n) (CAT x (line1 s r)) y, true)], LAPP s r n x y, true⟩
def lemDLn : List Lem := [lemDL1 (.x 0) (.x 1) (.x 2) (.x 3), lemDL2 (.x 0) (.x 1) (.x 2) (.x 3), lemDL3 (.x 0) (.x 1) (.x 2) (.x 3) (ofN 11)]
def base2 (hs : List (Tm × Bool)) (s t r : Tm) : List TEq := [⟨hs, ATR t, ATR r⟩, ⟨hs, OKR t, OKR r⟩, ⟨hs, RB s t, RB s r⟩]
def teqLn1 (s r n : Tm) : List TEq := base2 [gt0 n false, sz4 s] s (LST s r n) r ++ [⟨[gt0 n true, leN n 16], LST s r n, LST s (dst2 s r) (sub1 n)⟩]
def teqLn : List TEq := teqLn1 (.x 0) (.x 1) (.x 2)
def W32 : Int := 4294967295
def rdOps : List (Option (Int × Option IntKind)) := [some (255, some .u8), some (255, some .u8), some (16777216, some .i64), some (255, some .u8), some (W32, some .u32), none, none, some (W32, some .u32), some (255, some .u8), some (255, some .u8), some (18446744073709551615, none), none, none, some (W32, some .u32), some (W32, some .u32), some (W32, some .u32)]
def opStep (s r : Tm) : Option (Int × Option IntKind) → Tm
 | some (m, _) => STEP s r (.c m)
 | none => DST s r
def opVals (s r : Tm) : Option (Int × Option IntKind) → List Tm
 | some (m, some k) => [.conv k (VAL s r (.c m))]
 | some (m, none) => [VAL s r (.c m)]
 | none => [DR s r, DN s r]
def opsStep (s : Tm) : List (Option (Int × Option IntKind)) → Tm → Tm
 | [], r => r
 | o :: l, r => opsStep s l (opStep s r o)
def opsVals (s : Tm) : List (Option (Int × Option IntKind)) → Tm → List Tm
 | [], _ => []
 | o :: l, r => opVals s r o ++ opsVals s l (opStep s r o)
def rN (s r : Tm) : Tm := opsStep s rdOps r
def nL (s r : Tm) : Tm := VAL s (rN s r) (.c 16)
def rL (s r : Tm) : Tm := STEP s (rN s r) (.c 16)
def ACELL (s r : Tm) (j : Nat) : Tm := .f (130 + j) [s, r]
def AST (s r : Tm) : Tm := .f 119 [s, r]
def LOK (s r y : Tm) : Tm := .f 121 [s, r, y]
def cellEqs (s r : Tm) : Nat → List Tm → List TEq
 | _, [] => []
 | j, t :: l => ⟨[], ACELL s r j, t⟩ :: cellEqs s r (j + 1) l
def endEqs (s r e : Tm) (hs : List (Tm × Bool)) : List TEq := [⟨hs, ACELL s r 21, DR s e⟩, ⟨hs, ACELL s r 22, DN s e⟩, ⟨hs, AST s r, DST s e⟩]
def teqAct (s r : Tm) : List TEq := cellEqs s r 0 (opsVals s rdOps r) ++ endEqs s r (rL s r) [gt0 (nL s r) false] ++ endEqs s r (LST s (dst2 s (rL s r)) (sub1 (nL s r))) [gt0 (nL s r) true]
def lemAct (s r : Tm) : List Lem := [⟨[gt0 (nL s r) true], (leN (sub1 (nL s r)) 16).1, true⟩, ⟨[], (ISL (line1 s (rL s r))).1, true⟩, ⟨[gt0 (nL s r) true], (cntL (line1 s (rL s r)) (sub1 (nL s r)) 16).1, true⟩]
def frzF (y t : Tm) : Tm × Bool := (.f 20 [.f 15 [y], t], true)
def lemLok0 (s r : Tm) (e : Int) : Lem := ⟨[gt0 (nL s r) false, here r, sz4 s], LOK s r (.f 14 [.c e]), true⟩
def lemLok1 (s r y : Tm) : Lem := ⟨[gt0 (nL s r) true, gt0 (sub1 (nL s r)) false, frzF y (line1 s (rL s r)), here r, sz4 s], LOK s r y, true⟩
def lemLok2 (s r x y : Tm) : Lem := ⟨[gt0 (nL s r) true, (LAPP s (dst2 s (rL s r)) (sub1 (nL s r)) (line1 s (rL s r)) x, true), frzF y x, here r, sz4 s], LOK s r y, true⟩
def lemDAct (s r : Tm) (e : Int) : List Lem := [lemLok0 s r e, lemLok1 s r (ofN 10), lemLok2 s r (ofN 12) (ofN 13)]
def AEND (s r n : Tm) : Tm := .f 124 [s, r, n]
def AAPP (s r n x y : Tm) : Tm := .f 125 [s, r, n, x, y]
def act1 (s r y : Tm) : Tm := .f 11 [.f 13 ((List.range 20).map (ACELL s r) ++ [y, ACELL s r 21, ACELL s r 22])]
def lemAs (s r n x y : Tm) : List Lem := [lemC1 n, lemC2 n, lemC3 n 4096, lemC4 x (act1 s r y) n 4096, lemC5 x (act1 s r y) n 4096, lemC6 x (act1 s r y)]
def teqAs (s r n : Tm) : List TEq := base2 [gt0 n false, sz4 s] s (AEND s r n) r ++ base2 [gt0 n true, (OKR r, false), sz4 s] s (AEND s r n) r ++ [⟨[gt0 n true, leN n 4096, (OKR r, true)], AEND s r n, AEND s (AST s r) (sub1 n)⟩]
def lokF (s r y : Tm) : Tm × Bool := (LOK s r y, true)
def lemDAs1 (s r n x y : Tm) (q : List (Tm × Bool)) : Lem := ⟨[gt0 n true, leN n 4096, fine r, ISL x, here r, sz4 s, lokF s r y] ++ q, AAPP s r n x (CAT x (act1 s r y)), true⟩
def lemDAs2 (s r n x y : Tm) : Lem := ⟨[gt0 n true, leN n 4096, cntL x n 4096, leL x 4096, ISL x, here r, sz4 s, lokF s r y], (leL (CAT x (act1 s r y)) 4096).1, true⟩
def lemDAs3 (s r n x y z : Tm) : Lem := ⟨[gt0 n true, leN n 4096, fine r, lokF s r y, (AAPP s (AST s r) (sub1 n) (CAT x (act1 s r y)) z, true)], AAPP s r n x z, true⟩
def lemDAs (s r n x y z : Tm) : List Lem := [lemDAs1 s r n x y [gt0 (sub1 n) false], lemDAs1 s r n x y [gt0 (sub1 n) true, (OKR (AST s r), false)], lemDAs2 s r n x y, lemDAs3 s r n x y z]
def rP (s : Tm) : Nat → Tm
 | 0 => .c 0
 | j + 1 => STEP s (rP s j) (.c 16777216)
def nA (s : Tm) : Tm := VAL s (rP s 4) (.c 4096)
def rA (s : Tm) : Tm := STEP s (rP s 4) (.c 4096)
def PL (s : Tm) (j : Nat) : Tm := .f (153 + j) [s]
def plEq (s : Tm) (j : Nat) : TEq := ⟨[], PL s j, .conv .i64 (VAL s (rP s j) (.c 16777216))⟩
def teqGet (s : Tm) : List TEq := [plEq s 0, plEq s 1, plEq s 2, plEq s 3]
def GOOD (s : Tm) : Tm := .f 126 [s]
def ISACTS (s y : Tm) : Tm := .f 127 [s, y]
def lemGet (s y : Tm) : List Lem := [⟨[gt0 (nA s) true], (leN (sub1 (nA s)) 4096).1, true⟩, ⟨[], (ISL (act1 s (rA s) y)).1, true⟩, ⟨[gt0 (nA s) true], (cntL (act1 s (rA s) y) (sub1 (nA s)) 4096).1, true⟩]
def moreF (s r : Tm) (b : Bool) : Tm × Bool := (.bin .gtr .i64 (.bin .sub .i64 (LEN s) (ATR r)) (.c 0), b)
def STR (s : Tm) : Tm × Bool := (.f 128 [s], true)
def goodL (s r : Tm) (hs : List (Tm × Bool)) : List Lem := [⟨(OKR r, false) :: sz4 s :: hs, GOOD s, false⟩, ⟨(OKR r, true) :: moreF s r true :: sz4 s :: STR s :: hs, GOOD s, false⟩, ⟨(OKR r, true) :: moreF s r false :: sz4 s :: STR s :: hs, GOOD s, true⟩]
def aEnd (s : Tm) : Tm := AEND s (AST s (rA s)) (sub1 (nA s))
def isN0 (s : Tm) (e : Int) : Lem := ⟨[gt0 (nA s) false, sz4 s], ISACTS s (.f 14 [.c e]), true⟩
def isN1 (s yk y : Tm) (q : List (Tm × Bool)) : Lem := ⟨[gt0 (nA s) true, fine (rA s), sz4 s, lokF s (rA s) yk, frzF y (act1 s (rA s) yk)] ++ q, ISACTS s y, true⟩
def isN2 (s yk z y : Tm) : Lem := ⟨[gt0 (nA s) true, fine (rA s), sz4 s, lokF s (rA s) yk, (AAPP s (AST s (rA s)) (sub1 (nA s)) (act1 s (rA s) yk) z, true), frzF y z], ISACTS s y, true⟩
def dn (c i : Tm) : Tm := .bin .sub .u64 c i
def addU (i : Tm) : Tm := .bin .add .u64 i (.c 1)
def ltU (i c : Tm) (b : Bool) : Tm × Bool := (.bin .lss .u64 i c, b)
def leU (i c : Tm) : Tm × Bool := (.bin .leq .u64 i c, true)
def rng2 (c i : Tm) : List (Tm × Bool) := rngF c .u64 ++ rngF i .u64
def lemUp (s r c i x e : Tm) (m : Int) : List Lem := [⟨[ltU i c true, leN c m] ++ rng2 c i, .bin .leq .i64 (.c 0) (dn c (addU i)), true⟩, ⟨[ltU i c true, leN c m, (.bin .leq .i64 (dn c i) lim, true)] ++ rng2 c i, .bin .lss .i64 (dn c (addU i)) lim, true⟩,
 ⟨[ltU i c true, leN c m] ++ rng2 c i, (leU (addU i) c).1, true⟩, ⟨[ltU i c true, leN c m, cntL x (dn c i) m] ++ rng2 c i, (cntL (CAT x e) (dn c (addU i)) m).1, true⟩, ⟨[ltU i c true, leN c m, cntL x (dn c i) m, leL x m] ++ rng2 c i, (leL (CAT x e) m).1, true⟩,
 ⟨[leU i c, leN c m] ++ rng2 c i, .bin .leq .i64 (.c 0) (dn c i), true⟩]
def teqUp (f g : Tm → Tm → Tm) (s r c i : Tm) : List TEq := base2 (ltU i c false :: leU i c :: sz4 s :: rng2 c i) s (f r (dn c i)) r ++ base2 (ltU i c true :: (OKR r, false) :: sz4 s :: rng2 c i) s (f r (dn c i)) r ++ [⟨ltU i c true :: fine r :: rng2 c i, f r (dn c i), f (g s r) (dn c (addU i))⟩]
def hsUp (s r c i x : Tm) (m : Int) : List (Tm × Bool) := [ltU i c true, leN c m, fine r, ISL x, here r, sz4 s] ++ rng2 c i
def lemDUpL (s r c i x y : Tm) : List Lem :=
  [⟨ltU (addU i) c false :: hsUp s r c i x 16, LAPP s r (dn c i) x (CAT x (line1 s r)), true⟩, ⟨ltU (addU i) c true :: (OKR (dst2 s r), false) :: hsUp s r c i x 16, LAPP s r (dn c i) x (CAT x (line1 s r)), true⟩,
   ⟨cntL x (dn c i) 16 :: leL x 16 :: hsUp s r c i x 16, (leL (CAT x (line1 s r)) 16).1, true⟩, ⟨(LAPP s (dst2 s r) (dn c (addU i)) (CAT x (line1 s r)) y, true) :: hsUp s r c i x 16, LAPP s r (dn c i) x y, true⟩]
def N0 (s r : Tm) (b : Bool) : Tm × Bool := ltU (.c 0) (nL s r) b
def teqActR (s r : Tm) : List TEq := endEqs s r (rL s r) [N0 s r false] ++ endEqs s r (rL s r) [N0 s r true, (OKR (rL s r), false)] ++ endEqs s r (LST s (dst2 s (rL s r)) (dn (nL s r) (.c 1))) [N0 s r true, fine (rL s r)]
def lemFirst (n x : Tm) (m : Int) : List Lem := [⟨[], (leN n m).1, true⟩, ⟨[ltU (.c 0) n true], (leU (.c 1) n).1, true⟩, ⟨[ltU (.c 0) n true], (cntL x (dn n (.c 1)) m).1, true⟩]
def lokR (s r : Tm) (hs : List (Tm × Bool)) (y : Tm) : Lem := ⟨hs ++ [here r, sz4 s], LOK s r y, true⟩
def lemDActR (s r : Tm) (e : Int) (y1 x2 y2 : Tm) : List Lem :=
  let n := nL s r
  let f := [N0 s r true, fine (rL s r)]
  let l := line1 s (rL s r)
  [lokR s r [N0 s r false] (.f 14 [.c e]), lokR s r [N0 s r true, (OKR (rL s r), false)] (.f 14 [.c e]), lokR s r (ltU (.c 1) n false :: frzF y1 l :: f) y1, lokR s r (ltU (.c 1) n true :: (OKR (dst2 s (rL s r)), false) :: frzF y1 l :: f) y1,
   lokR s r ((LAPP s (dst2 s (rL s r)) (dn n (.c 1)) l x2, true) :: frzF y2 x2 :: f) y2]
def lemDUpA (s r c i x y z : Tm) : List Lem :=
 let h := lokF s r y :: hsUp s r c i x 4096
 let e := CAT x (act1 s r y)
 [⟨ltU (addU i) c false :: h, AAPP s r (dn c i) x e, true⟩, ⟨ltU (addU i) c true :: (OKR (AST s r), false) :: h, AAPP s r (dn c i) x e, true⟩, ⟨cntL x (dn c i) 4096 :: leL x 4096 :: h, (leL e 4096).1, true⟩, ⟨(AAPP s (AST s r) (dn c (addU i)) e z, true) :: h, AAPP s r (dn c i) x z, true⟩]
def M0 (s : Tm) (b : Bool) : Tm × Bool := ltU (.c 0) (nA s) b
def leftF (s r : Tm) (b : Bool) : Tm × Bool := (.bin .gtr .i64 (LEN (RB s r)) (.c 0), b)
def goodR (s r : Tm) (hs : List (Tm × Bool)) : List Lem := [⟨(OKR r, false) :: sz4 s :: hs, GOOD s, false⟩, ⟨(OKR r, true) :: leftF s r true :: sz4 s :: hs, GOOD s, false⟩, ⟨(OKR r, true) :: leftF s r false :: sz4 s :: hs, GOOD s, true⟩]
def aEndR (s : Tm) : Tm := AEND s (AST s (rA s)) (dn (nA s) (.c 1))
def isR (s : Tm) (hs : List (Tm × Bool)) (y : Tm) : Lem := ⟨sz4 s :: hs, ISACTS s y, true⟩
def lemDGetR (s : Tm) (e : Int) (yk y1 x2 y2 : Tm) : List Lem :=
 let n := nA s
 let f := [M0 s true, fine (rA s), lokF s (rA s) yk]
 let a := act1 s (rA s) yk
 goodR s (rA s) [M0 s false] ++ goodR s (rA s) [M0 s true, (OKR (rA s), false)] ++ goodR s (aEndR s) [M0 s true, fine (rA s)] ++
 [isR s [M0 s false] (.f 14 [.c e]), isR s (ltU (.c 1) n false :: frzF y1 a :: f) y1, isR s (ltU (.c 1) n true :: (OKR (AST s (rA s)), false) :: frzF y1 a :: f) y1, isR s ((AAPP s (AST s (rA s)) (dn n (.c 1)) a x2, true) :: frzF y2 x2 :: f) y2]
def teqPg : List TEq := (ways (.x 0) (.x 1) (.x 2)).flatMap (wayEqs (.x 0) (.x 1) (.x 2)) ++ rnEqs (.x 1) ++ (takesR (.x 0) (.x 1) (.x 2)).flatMap (takeEqs (.x 0) (.x 1) (.x 2)) ++ (takes (.x 0) (.x 2) [sz4 (.x 0), geK .u64 (.x 2)]).flatMap (takeEqs (.x 0) (.c 0) (.x 2)) ++ dotEqs (.x 0) (.x 1) ++ openEqs
end Go.Proofs.YtcjbpaiomcfgnaaGreatDoor
namespace Go.Proofs.YtcjbpaiomcfgnaaGreatDoor
open Go
def MAYF (ps : List Tm) (l : Tm) : Tm := .f 160 (ps ++ [l])
def ANYL (l : Tm) : Tm := .f 161 [l]
def ANYT (l : Tm) : Tm := .f 162 [l]
def NOTL (l i : Tm) : Tm := .f 163 [l, i]
def NOTT (l i : Tm) : Tm := .f 164 [l, i]
def ENCF (l i : Tm) : Tm := .f 170 [l, i]
def REST (l i : Tm) : Tm := .f 171 [l, i]
def SCR (ps : List Tm) (l : Tm) : Tm := .f 172 (ps ++ [l])
def SAMEALL (a b : Tm) : Tm := .f 173 [a, b]
def PRE2 (a b i : Tm) : Tm := .f 174 [a, b, i]
def plc (l i : Tm) : List (Tm × Bool) := [sz l, isRow l, ge0 i, leLen i l]
def lns (l i : Tm) : Tm := CELL l i 20
def gt16 (l i : Tm) (b : Bool) : Tm × Bool := (.bin .gtr .i64 (LEN (lns l i)) (.c 16), b)
def lemN1 (t i : Tm) : Lem := ⟨[sz t, ge0 i, ltLen i t true], .bin .leq .i64 (.c 0) (left t (add1 i)), true⟩
def lemN2 (t i : Tm) : Lem := ⟨[sz t, ge0 i, ltLen i t true, (.bin .leq .i64 (left t i) lim, true)], .bin .lss .i64 (left t (add1 i)) lim, true⟩
def lemN0 (t i : Tm) : Lem := ⟨[sz t, ge0 i, leLen i t], .bin .leq .i64 (.c 0) (left t i), true⟩
def lemNI (t i : Tm) : Lem := ⟨[sz t, ge0 i, ltLen i t true], (leLen (add1 i) t).1, true⟩
def atT (l i : Tm) : Tm := .conv .i64 (CELL l i 2)
def lowT (n : Tm) (b : Bool) : Tm × Bool := (.bin .lss .i64 n (.c 0), b)
def highT (n : Tm) (b : Bool) : Tm × Bool := (.bin .gtr .i64 n (.c 16777216), b)
def geT (n : Tm) (b : Bool) : Tm × Bool := (.bin .geq .i64 n (.c 0), b)
def leT (n : Tm) (b : Bool) : Tm × Bool := (.bin .leq .i64 n (.c 16777216), b)
def lemNot (l i : Tm) : List Lem := [⟨[isRow l], NOTL l (.c 0), true⟩, ⟨[isRow l], NOTT l (.c 0), true⟩, ⟨[(NOTL l i, true), gt16 l i false, ltLen i l true, ge0 i, sz l], NOTL l (add1 i), true⟩, ⟨[(NOTT l i, true), lowT (atT l i) false, highT (atT l i) false, ltLen i l true, ge0 i, sz l], NOTT l (add1 i), true⟩, ⟨[(NOTT l i, true), geT (atT l i) true, leT (atT l i) true, ltLen i l true, ge0 i, sz l], NOTT l (add1 i), true⟩]
def lemDNot (l i : Tm) : List Lem := [⟨[gt16 l i true, ltLen i l true, ge0 i], ANYL l, true⟩, ⟨[lowT (atT l i) true, ltLen i l true, ge0 i], ANYT l, true⟩, ⟨[highT (atT l i) true, ltLen i l true, ge0 i], ANYT l, true⟩, ⟨[geT (atT l i) false, ltLen i l true, ge0 i], ANYT l, true⟩, ⟨[leT (atT l i) false, ltLen i l true, ge0 i], ANYT l, true⟩,
 ⟨[(NOTL l i, true), ltLen i l false, leLen i l, ge0 i], ANYL l, false⟩, ⟨[(NOTT l i, true), ltLen i l false, leLen i l, ge0 i], ANYT l, false⟩]
def anyEqs (t : Tm) : List TEq := [⟨[(t, true)], t, .c 1⟩, ⟨[(t, false)], t, .c 0⟩]
def many (l : Tm) (b : Bool) : Tm × Bool := (.bin .gtr .i64 (LEN l) (.c 4096), b)
def fineP (n : Tm) : List (Tm × Bool) := [lowT n false, highT n false]
def fineR (n : Tm) : List (Tm × Bool) := [geT n true, leT n true]
def okPl (l : Tm) : List (Tm × Bool) := [many l false, (ANYL l, false)]
def defP (ps : List Tm) : List (Tm × Bool) := ps.map fun p => geK .i64 p
def mayEqs (a b c d l : Tm) : List TEq :=
  let M := MAYF [a, b, c, d] l
  let f := isRow l :: defP [a, b, c, d]
  let z := okPl l ++ f
  [⟨many l true :: f, M, .c 3⟩, ⟨many l false :: (ANYL l, true) :: f, M, .c 3⟩, ⟨lowT a true :: z, M, .c 2⟩, ⟨highT a true :: z, M, .c 2⟩, ⟨lowT b true :: z, M, .c 2⟩, ⟨highT b true :: z, M, .c 2⟩, ⟨lowT c true :: z, M, .c 2⟩, ⟨highT c true :: z, M, .c 2⟩, ⟨lowT d true :: z, M, .c 2⟩, ⟨highT d true :: z, M, .c 2⟩,
   ⟨geT a false :: z, M, .c 2⟩, ⟨leT a false :: z, M, .c 2⟩, ⟨geT b false :: z, M, .c 2⟩, ⟨leT b false :: z, M, .c 2⟩, ⟨geT c false :: z, M, .c 2⟩, ⟨leT c false :: z, M, .c 2⟩, ⟨geT d false :: z, M, .c 2⟩, ⟨leT d false :: z, M, .c 2⟩,
   ⟨(ANYT l, true) :: z, M, .c 2⟩, ⟨(ANYT l, false) :: fineP a ++ fineP b ++ fineP c ++ fineP d ++ z, M, .c 0⟩, ⟨(ANYT l, false) :: fineR a ++ fineR b ++ fineR c ++ fineR d ++ z, M, .c 0⟩]
def cellK (l i : Tm) : Nat → List IntKind → List Tm
 | _, [] => []
 | j, k :: r => .conv k (CELL l i (.ofNat j)) :: cellK l i (j + 1) r
def actX (l i : Tm) : List Tm := cellK l i 0 ks ++ [lns l i, .conv .u8 (CELL l i 21), .conv .u32 (CELL l i 22)]
def RSM (x l i : Tm) : Tm × Bool := (.bin .leq .i64 (addI (LEN x) (REST l i)) (.c 90000), true)
def le9 (x : Tm) : Tm × Bool := (.bin .leq .i64 (LEN x) (.c 90000), true)
def RST0 (l : Tm) : Tm × Bool := (.bin .leq .i64 (REST l (.c 0)) (.c 80000), true)
def noL (l : Tm) : Tm × Bool := (ANYL l, false)
def actAt (x l i : Tm) : Tm := CAT x (ACT (actX l i))
def lemPut2 (x l i : Tm) : List Lem := [⟨[noL l, ltLen i l true, ge0 i], (le300 (lns l i)).1, true⟩, ⟨[RSM x l i, ltLen i l true, ge0 i, sz l], (RSM (actAt x l i) l (add1 i)).1, true⟩, ⟨[RSM x l i, le9 x, noL l, ltLen i l true, ge0 i, sz l], (le9 (actAt x l i)).1, true⟩]
def teqPut2 (x l i : Tm) : List TEq := [⟨[ltLen i l true, ge0 i, sz l, ltLen (add1 i) l false], CAT x (ENCF l i), actAt x l i⟩, ⟨[ltLen i l true, ge0 i, sz l], CAT x (ENCF l i), CAT (actAt x l i) (ENCF l (add1 i))⟩]
def hdr (ps : List Tm) (l : Tm) : Tm := catN0 (ps.map u64 ++ [u64 (LEN l)])
def okM (ps : List Tm) (l : Tm) : Tm × Bool := (.bin .neq .i64 (MAYF ps l) (.c 0), false)
def lemScr (ps : List Tm) (l : Tm) : List Lem := [⟨[okM ps l], ANYL l, false⟩, ⟨[RST0 l], (RSM (hdr ps l) l (.c 0)).1, true⟩]
def leScr (ps : List Tm) (l : Tm) : Tm × Bool := (.bin .leq .i64 (LEN (SCR ps l)) (.c 90000), true)
def lemDScr (ps : List Tm) (l : Tm) : List Lem := [⟨RST0 l :: isRow l :: defP ps, (leScr ps l).1, true⟩]
def teqScr (ps : List Tm) (l : Tm) : List TEq := [⟨[ltLen (.c 0) l false, isRow l], SCR ps l, hdr ps l⟩, ⟨[ltLen (.c 0) l true, isRow l], SCR ps l, CAT (hdr ps l) (ENCF l (.c 0))⟩]
def actRg (b : Nat) : List (Tm × Bool) := [geK .u8 (.x (b + 3)), leK .u8 (.x (b + 3)), geK .u8 (.x (b + 10)), leK .u8 (.x (b + 10)), geK .u8 (.x (b + 11)), leK .u8 (.x (b + 11))]
def xk (l i : Tm) (k : IntKind) (j : Int) : Tm := .conv k (CELL l i j)
def reqX (l i : Tm) : List Tm := cellK l i 3 kindsR ++ [lns l i]
def neD (a b i : Tm) : Tm := .f 10 [AND (.bin .eql .u8 (xk a i .u8 21) (xk b i .u8 21)) (.bin .eql .u32 (xk a i .u32 22) (xk b i .u32 22))]
def neK (a b i : Tm) (k : IntKind) (j : Int) : Tm := .bin .neq k (xk a i k j) (xk b i k j)
def sameHs (a b i : Tm) : List (Tm × Bool) := [(neK a b i .u8 0, false), (neK a b i .u8 1, false), (neK a b i .i64 2, false), (neD a b i, false), (SAMEQ (reqX a i ++ reqX b i), true)]
def pl2 (a b i : Tm) : List (Tm × Bool) := [neLen a b, ltLen i a true, ge0 i, sz a]
def lemSA (a b i : Tm) : List Lem := [⟨[isRow a, isRow b], PRE2 a b (.c 0), true⟩, ⟨(PRE2 a b i, true) :: sameHs a b i ++ pl2 a b i, PRE2 a b (add1 i), true⟩, ⟨[noL a, ltLen i a true, ge0 i], (le300 (lns a i)).1, true⟩, ⟨[noL b, ltLen i a true, neLen a b, ge0 i], (le300 (lns b i)).1, true⟩, ⟨[ltLen i a true, neLen a b], .bin .lss .i64 i (LEN b), true⟩]
def lemDSA (a b i : Tm) : List Lem := [⟨(neK a b i .u8 0, true) :: pl2 a b i, SAMEALL a b, false⟩, ⟨(neK a b i .u8 1, true) :: pl2 a b i, SAMEALL a b, false⟩, ⟨(neK a b i .i64 2, true) :: pl2 a b i, SAMEALL a b, false⟩, ⟨(neD a b i, true) :: pl2 a b i, SAMEALL a b, false⟩, ⟨(SAMEQ (reqX a i ++ reqX b i), false) :: pl2 a b i, SAMEALL a b, false⟩,
 ⟨[(PRE2 a b i, true), ltLen i a false, leLen i a, neLen a b, ge0 i, sz a], SAMEALL a b, true⟩]
def teqSA (a b : Tm) : List TEq := anyEqs (SAMEALL a b) ++ [⟨[(.bin .neq .i64 (LEN a) (LEN b), true), isRow a, isRow b], SAMEALL a b, .c 0⟩]
end Go.Proofs.YtcjbpaiomcfgnaaGreatDoor
namespace Go.Proofs.YtcjbpaiomcfgnaaGreatDoor
open Go
def planT (b : Nat) : List Tm := [.x b, .x (b + 1), .x (b + 2), .x (b + 3)]
def NIL (e : Int) : Tm := .f 14 [.c e]
def lemNil (e : Int) : List Lem := [⟨[], (sz (NIL e)).1, true⟩, ⟨[], ANYL (NIL e), false⟩, ⟨[], SAMEALL (NIL e) (NIL e), true⟩]
def okS (s y : Tm) : List (Tm × Bool) := [(GOOD s, true), (ISACTS s y, true)]
def le4000 (s : Tm) : Tm × Bool := (.bin .gtr .i64 (LEN s) (.c 4000), false)
def PLs (s : Tm) : List Tm := [PL s 0, PL s 1, PL s 2, PL s 3]
def eqPL (s : Tm) (j : Nat) : Lem := ⟨[], .bin .eql .i64 (PL s j) (PL s j), true⟩
def lemGets (s y : Tm) : List Lem := [⟨okS s y, (sz y).1, true⟩, ⟨okS s y, ANYL y, false⟩, ⟨le4000 s :: okS s y, (RST0 y).1, true⟩, ⟨okS s y, (okM (PLs s) y).1, false⟩]
def lemGet2 (s y z : Tm) : List Lem := ⟨(ISACTS s z, true) :: okS s y, SAMEALL y z, true⟩ :: (List.range 4).map (eqPL s)
def lemGet3 (s y : Tm) : List Lem := [⟨STR s :: okS s y, .f 4 [SCR (PLs s) y, s], true⟩]
end Go.Proofs.YtcjbpaiomcfgnaaGreatDoor
namespace Go.Proofs.YtcjbpaiomcfgnaaGreatDoor
open Go
def nD : Dat → Int
 | .n n => n
 | _ => 0
def lenZ : Dat → Int
 | .s l => l.length
 | .l l => l.length
 | .r _ _ l => l.length
 | _ => 0
section
variable (ν : Nm)
mutual
noncomputable def evD : Tm → Dat
 | .c n => .n n
 | .x i => (ν.x i).getD (.n 0)
 | .bin o k a b => (binZ o k (nD (evD a)) (nD (evD b))).getD (.n 0)
 | .conv k a => .n (k.wrap (nD (evD a)))
 | .f o l => match limF o with
  | true => .n ν.u
  | false => (stdU o (evDs l)).getD (.n 0)
noncomputable def evDs : List Tm → List Dat
 | [] => []
 | t :: l => evD t :: evDs l
end
noncomputable def nev (t : Tm) : Int := nD (evD ν t)
def EvIs (p : Tm × Bool) : Prop := decide (nev ν p.1 ≠ 0) = p.2
end
section
variable {ν : Nm}
mutual
theorem ev_den : ∀ {t : Tm} {d : Dat}, denT ν t = some d → evD ν t = d
 | .c n, d, h => by
  simp only [denT, Option.some.injEq] at h
  simp only [evD, h]
 | .x i, d, h => by
  simp only [denT] at h
  simp only [evD, h, Option.getD_some]
 | .bin o k a b, d, h => by
  obtain ⟨x, y, h1, h2, h3⟩ := den_bin.1 h
  simp only [evD, ev_den h1, ev_den h2, nD, h3, Option.getD_some]
 | .conv k a, d, h => by
  obtain ⟨x, h1, h2⟩ := den_conv.1 h
  simp only [evD, ev_den h1, nD, h2]
 | .f o l, d, h => by
  simp only [denT] at h
  cases h1 : denTs ν l with
  | none => rw [h1] at h; cases h
  | some ds =>
   rw [h1] at h
   simp only [evD, evs_den h1]
   simp only at h
   split at h
   ·rename_i e
    cases ds with
    | nil => simp only [Option.some.injEq] at h; simp only [e, h]
    | cons a b => cases h
   ·rename_i e
    simp only [e, h, Option.getD_some]
theorem evs_den : ∀ {t : List Tm} {d : List Dat}, denTs ν t = some d → evDs ν t = d
 | [], d, h => by
  simp only [denTs, Option.some.injEq] at h
  simp only [evDs, h]
 | t :: l, ds, h => by
  obtain ⟨d, r, h1, h2, rfl⟩ := denTs_cons h
  simp only [evDs, ev_den h1, evs_den h2]
end
theorem so_ev {t : Tm} {b : Bool} (h : IsSo ν t b) : EvIs ν (t, b) := by
 obtain ⟨n, h1, h2⟩ := h
 unfold EvIs nev
 rw [ev_den h1]
 exact h2
theorem allSo_append {l m : List (Tm × Bool)} : AllSo ν (l ++ m) ↔ AllSo ν l ∧ AllSo ν m := by
 induction l with
 | nil => simp [AllSo]
 | cons a l ih => simp only [List.cons_append, AllSo, ih, and_assoc]
theorem nev_c (n : Int) : nev ν (.c n) = n := by simp only [nev, evD, nD]
theorem nev_conv (k : IntKind) (a : Tm) : nev ν (.conv k a) = k.wrap (nev ν a) := by simp only [nev, evD, nD]
theorem nev_bin {o : BinOp} {k : IntKind} {a b : Tm} {d : Int} (h : binZ o k (nev ν a) (nev ν b) = some (.n d)) : nev ν (.bin o k a b) = d := by
 have e : evD ν (.bin o k a b) = .n d := by
  simp only [evD]
  rw [show binZ o k (nD (evD ν a)) (nD (evD ν b)) = some (.n d) from h]
  rfl
 unfold nev
 rw [e]
 rfl
theorem nev_add (k : IntKind) (a b : Tm) : nev ν (.bin .add k a b) = k.wrap (nev ν a + nev ν b) := nev_bin rfl
theorem nev_sub (k : IntKind) (a b : Tm) : nev ν (.bin .sub k a b) = k.wrap (nev ν a - nev ν b) := nev_bin rfl
theorem nev_mul (k : IntKind) (a b : Tm) : nev ν (.bin .mul k a b) = k.wrap (nev ν a * nev ν b) := nev_bin rfl
theorem nev_or (k : IntKind) (a b : Tm) : nev ν (.bin .or k a b) = k.wrap (BitVec.ofInt k.bits (nev ν a) ||| BitVec.ofInt k.bits (nev ν b)).toNat := nev_bin rfl
theorem nev_quo {k : IntKind} {a b : Tm} (h : nev ν b ≠ 0) : nev ν (.bin .quo k a b) = k.wrap ((nev ν a).tdiv (nev ν b)) := nev_bin (by
 have e : intEq (nev ν b) 0 = false := by rw [intEq_iff]; exact decide_eq_false h
 simp only [binZ, intBinA, e])
theorem nev_rem {k : IntKind} {a b : Tm} (h : nev ν b ≠ 0) : nev ν (.bin .rem k a b) = (nev ν a).tmod (nev ν b) := nev_bin (by
 have e : intEq (nev ν b) 0 = false := by rw [intEq_iff]; exact decide_eq_false h
 simp only [binZ, intBinA, e])
theorem ev_cmp {o : BinOp} {k : IntKind} {a b : Tm} {c q : Bool} (h : cmpZ o (nev ν a) (nev ν b) = some q) : EvIs ν (.bin o k a b, c) ↔ q = c := by
 unfold EvIs
 simp only
 rw [nev_bin (binZ_cmp h)]
 cases q <;> simp
theorem ev_lss {k : IntKind} {a b : Tm} {c : Bool} : EvIs ν (.bin .lss k a b, c) ↔ decide (nev ν a < nev ν b) = c := ev_cmp rfl
theorem ev_leq {k : IntKind} {a b : Tm} {c : Bool} : EvIs ν (.bin .leq k a b, c) ↔ decide (nev ν a ≤ nev ν b) = c := ev_cmp rfl
theorem ev_gtr {k : IntKind} {a b : Tm} {c : Bool} : EvIs ν (.bin .gtr k a b, c) ↔ decide (nev ν a > nev ν b) = c := ev_cmp rfl
theorem ev_geq {k : IntKind} {a b : Tm} {c : Bool} : EvIs ν (.bin .geq k a b, c) ↔ decide (nev ν a ≥ nev ν b) = c := ev_cmp rfl
theorem ev_eql {k : IntKind} {a b : Tm} {c : Bool} : EvIs ν (.bin .eql k a b, c) ↔ decide (nev ν a = nev ν b) = c := ev_cmp rfl
theorem ev_neq {k : IntKind} {a b : Tm} {c : Bool} : EvIs ν (.bin .neq k a b, c) ↔ (!decide (nev ν a = nev ν b)) = c := ev_cmp rfl
theorem nev_len (a : Tm) : nev ν (.f 0 [a]) = lenZ (evD ν a) := by
 simp only [nev, evD, show limF 0 = false from rfl, evDs]
 show nD ((lenF (evD ν a)).getD (.n 0)) = _
 cases evD ν a <;> simp [lenF, nD, lenZ]
def IsN (ν : Nm) (t : Tm) : Prop := evD ν t = .n (nev ν t)
theorem isN_c (n : Int) : IsN ν (.c n) := by simp only [IsN, nev, evD, nD]
theorem isN_conv (k : IntKind) (a : Tm) : IsN ν (.conv k a) := by simp only [IsN, nev, evD, nD]
theorem isN_bin (o : BinOp) (k : IntKind) (a b : Tm) : IsN ν (.bin o k a b) := by
 unfold IsN nev
 simp only [evD]
 unfold binZ
 split <;> simp [nD]
theorem isN_of {t : Tm} {n : Int} (h : evD ν t = .n n) : IsN ν t := by simp only [IsN, nev, h, nD]
theorem isN_den {t : Tm} {n : Int} (h : denT ν t = some (.n n)) : IsN ν t := isN_of (ev_den h)
theorem isN_len (a : Tm) : IsN ν (.f 0 [a]) := by
 unfold IsN nev
 simp only [evD, show limF 0 = false from rfl, evDs]
 show (lenF (evD ν a)).getD (.n 0) = .n (nD ((lenF (evD ν a)).getD (.n 0)))
 cases evD ν a <;> simp [lenF, nD]
theorem isN_tot {o : Nat} {l : List Tm} (h : totU o = true) (h2 : 100 ≤ o) : IsN ν (.f o l) := by
 obtain ⟨n, hn⟩ := progU_tot h (evDs ν l)
 have hlim : limF o = false := by
  unfold limF
  cases h : Nat.beq o 50 with
  | false => rfl
  | true => have := Nat.eq_of_beq_eq_true h; omega
 refine isN_of (n := n) ?_
 simp only [evD, hlim]
 unfold stdU
 rw [Nat.ble_eq_true_of_le h2]
 simp only [hn, flatU, Option.getD_some]
theorem evD_U {o : Nat} {l : List Tm} {d : Dat} (h2 : 100 ≤ o) (h : flatU (progU o (evDs ν l)) = some d) : evD ν (.f o l) = d := by
 have hlim : limF o = false := by
  unfold limF
  cases h : Nat.beq o 50 with
  | false => rfl
  | true => have := Nat.eq_of_beq_eq_true h; omega
 simp only [evD, hlim]
 unfold stdU
 rw [Nat.ble_eq_true_of_le h2]
 simp only [h, Option.getD_some]
theorem evD_part {a i j : Tm} {l : List UInt8} (ha : evD ν a = .s l) (hi : IsN ν i) (hj : IsN ν j) (h1 : 0 ≤ nev ν i) (h2 : nev ν i ≤ nev ν j) (h3 : nev ν j ≤ l.length) : evD ν (.f 8 [a, i, j]) = .s ((l.drop (nev ν i).toNat).take ((nev ν j).toNat - (nev ν i).toNat)) := by
 simp only [evD, show limF 8 = false from rfl, evDs]
 show (partU (evD ν a) (evD ν i) (evD ν j)).getD (.n 0) = _
 rw [ha, hi, hj]
 simp only [partU]
 rw [if_pos ⟨h1, h2, h3⟩]
 rfl
theorem nev_byte {a i : Tm} {l : List UInt8} {b : UInt8} (ha : evD ν a = .s l) (hi : IsN ν i) (h1 : 0 ≤ nev ν i) (h2 : l[(nev ν i).toNat]? = some b) : nev ν (.f 9 [a, i]) = b.toNat := by
 unfold nev
 simp only [evD, show limF 9 = false from rfl, evDs]
 show nD ((byteF (evD ν a) (evD ν i)).getD (.n 0)) = _
 rw [ha, hi]
 simp only [byteF]
 rw [if_pos h1, h2]
 rfl
theorem nev_shl (a b : Tm) (ha : IsN ν a) (hb : IsN ν b) : nev ν (.f 7 [a, b]) = nev ν a * 2 ^ (nev ν b).toNat := by
 conv => lhs; unfold nev
 simp only [evD, show limF 7 = false from rfl, evDs]
 show nD ((twoF (numF shlZ) [evD ν a, evD ν b]).getD (.n 0)) = _
 rw [ha, hb]
 rfl
theorem evD_cat {a b : Tm} {x y : List UInt8} (ha : evD ν a = .s x) (hb : evD ν b = .s y) : evD ν (.f 2 [a, b]) = .s (x ++ y) := by
 simp only [evD, show limF 2 = false from rfl, evDs]
 show (catF (evD ν a) (evD ν b)).getD (.n 0) = _
 rw [ha, hb]
 rfl
mutual
def occT (t : Tm) : Tm → Bool
 | .c n => eqTm t (.c n)
 | .x i => eqTm t (.x i)
 | .bin o k a b => eqTm t (.bin o k a b) || occT t a || occT t b
 | .conv k a => eqTm t (.conv k a) || occT t a
 | .f o l => eqTm t (.f o l) || occTs t l
def occTs (t : Tm) : List Tm → Bool
 | [] => false
 | a :: l => occT t a || occTs t l
end
mutual
theorem occ_den {t : Tm} : ∀ {u : Tm} {d : Dat}, occT t u = true → denT ν u = some d → ∃ x, denT ν t = some x
 | .c n, d, h, hd => by
  simp only [occT] at h
  rw [eqTm_eq h]
  exact ⟨d, hd⟩
 | .x i, d, h, hd => by
  simp only [occT] at h
  rw [eqTm_eq h]
  exact ⟨d, hd⟩
 | .bin o k a b, d, h, hd => by
  simp only [occT, Bool.or_eq_true] at h
  obtain ⟨x, y, h1, h2, h3⟩ := den_bin.1 hd
  rcases h with (h | h) | h
  ·rw [eqTm_eq h]; exact ⟨d, hd⟩
  ·exact occ_den h h1
  ·exact occ_den h h2
 | .conv k a, d, h, hd => by
  simp only [occT, Bool.or_eq_true] at h
  obtain ⟨x, h1, h2⟩ := den_conv.1 hd
  rcases h with h | h
  ·rw [eqTm_eq h]; exact ⟨d, hd⟩
  ·exact occ_den h h1
 | .f o l, d, h, hd => by
  simp only [occT, Bool.or_eq_true] at h
  rcases h with h | h
  ·rw [eqTm_eq h]; exact ⟨d, hd⟩
  ·simp only [denT] at hd
   cases h1 : denTs ν l with
   | none => rw [h1] at hd; cases hd
   | some ds => exact occs_den h h1
theorem occs_den {t : Tm} : ∀ {l : List Tm} {ds : List Dat}, occTs t l = true → denTs ν l = some ds → ∃ x, denT ν t = some x
 | [], _, h, _ => by simp only [occTs] at h; cases h
 | a :: l, ds, h, hd => by
  simp only [occTs, Bool.or_eq_true] at h
  obtain ⟨d, r, h1, h2, _⟩ := denTs_cons hd
  rcases h with h | h
  ·exact occ_den h h1
  ·exact occs_den h h2
end
def occL (t : Tm) : List (Tm × Bool) → Bool
 | [] => false
 | p :: l => occT t p.1 || occL t l
theorem occL_den {t : Tm} : ∀ {l : List (Tm × Bool)}, occL t l = true → AllSo ν l → ∃ x, denT ν t = some x
 | [], h, _ => by simp only [occL] at h; cases h
 | p :: l, h, hs => by
  simp only [occL, Bool.or_eq_true] at h
  rcases h with h | h
  ·obtain ⟨n, h1, _⟩ := hs.1
   exact occ_den h h1
  ·exact occL_den h hs.2
mutual
def defT (hs : List (Tm × Bool)) : Tm → Bool
 | .c _ => true
 | .f o l => occL (.f o l) hs || (totU o && Nat.ble 100 o && defTs hs l)
 | t => occL t hs
def defTs (hs : List (Tm × Bool)) : List Tm → Bool
 | [] => true
 | t :: l => defT hs t && defTs hs l
end
mutual
theorem def_den {hs : List (Tm × Bool)} (h : AllSo ν hs) : ∀ {t : Tm}, defT hs t = true → denT ν t = some (evD ν t)
 | .c n, _ => by simp only [denT, evD]
 | .x i, k => by
  obtain ⟨x, hx⟩ := occL_den k h
  rw [hx, ev_den hx]
 | .bin o q a b, k => by
  obtain ⟨x, hx⟩ := occL_den k h
  rw [hx, ev_den hx]
 | .conv q a, k => by
  obtain ⟨x, hx⟩ := occL_den k h
  rw [hx, ev_den hx]
 | .f o l, k => by
  simp only [defT, Bool.or_eq_true, Bool.and_eq_true, Nat.ble_eq] at k
  rcases k with k | ⟨⟨k1, k2⟩, k3⟩
  ·obtain ⟨x, hx⟩ := occL_den k h
   rw [hx, ev_den hx]
  ·have h1 := defs_den h k3
   obtain ⟨n, hn⟩ := progU_tot k1 (evDs ν l)
   have hd : denT ν (.f o l) = some (.n n) := (den_U k2).2 ⟨_, h1, by rw [hn]; rfl⟩
   rw [hd, ev_den hd]
theorem defs_den {hs : List (Tm × Bool)} (h : AllSo ν hs) : ∀ {l : List Tm}, defTs hs l = true → denTs ν l = some (evDs ν l)
 | [], _ => by simp only [denTs, evDs]
 | t :: l, k => by
  simp only [defTs, Bool.and_eq_true] at k
  simp only [evDs]
  exact denTs_mk (def_den h k.1) (defs_den h k.2)
end
theorem teq_ev {hs : List (Tm × Bool)} {o : Nat} {l : List Tm} {b : Tm} (h2 : 100 ≤ o) (hd : defTs hs l = true) (h : ∀ ν : Nm, AllSo ν hs → ∀ d, denT ν b = some d → flatU (progU o (evDs ν l)) = some d) : TEqIs ⟨hs, .f o l, b⟩ := fun ν hs d hb =>
 (den_U h2).2 ⟨_, defs_den hs hd, h ν hs d hb⟩
theorem lem_ev {hs : List (Tm × Bool)} {t : Tm} {b : Bool} (h : ∀ ν : Nm, AllSo ν hs → decide (nev ν t ≠ 0) = b) : LemIs ⟨hs, t, b⟩ := fun ν hs c hc => by
 have h1 := so_ev hc
 have h2 := h ν hs
 unfold EvIs at h1
 simp only at h1 h2 ⊢
 rw [← h1, h2]
end
end Go.Proofs.YtcjbpaiomcfgnaaGreatDoor
namespace Go.Proofs.YtcjbpaiomcfgnaaGreatDoor
open Go
section
variable {ν : Nm}
theorem den_T {o : Nat} (h : totN o = true) {l : List Tm} {d : Dat} : denT ν (.f o l) = some d ↔ ∃ ds, denTs ν l = some ds ∧ d = .n (uI o ds) := by
 rw [den_U (Nat.le_trans (by decide) (totN_ge h).1)]
 constructor
 ·rintro ⟨ds, h1, h2⟩
  rw [progU_N h] at h2
  simp only [flatU, Option.some.injEq] at h2
  exact ⟨ds, h1, h2.symm⟩
 ·rintro ⟨ds, h1, rfl⟩
  exact ⟨ds, h1, by rw [progU_N h]; rfl⟩
theorem denTs0 : denTs ν [] = some [] := by simp only [denTs]
theorem denTs1 {a : Tm} {ds : List Dat} : denTs ν [a] = some ds ↔ ∃ x, denT ν a = some x ∧ ds = [x] := by
 constructor
 ·intro h
  obtain ⟨x, r, h1, h2, rfl⟩ := denTs_cons h
  cases denTs_nil h2
  exact ⟨x, h1, rfl⟩
 ·rintro ⟨x, h1, rfl⟩
  exact denTs_mk h1 denTs0
theorem denTs2 {a b : Tm} {ds : List Dat} : denTs ν [a, b] = some ds ↔ ∃ x y, denT ν a = some x ∧ denT ν b = some y ∧ ds = [x, y] := by
 constructor
 ·intro h
  obtain ⟨x, r, h1, h2, rfl⟩ := denTs_cons h
  obtain ⟨y, h3, rfl⟩ := denTs1.1 h2
  exact ⟨x, y, h1, h3, rfl⟩
 ·rintro ⟨x, y, h1, h2, rfl⟩
  exact denTs_mk h1 (denTs1.2 ⟨y, h2, rfl⟩)
theorem denTs3 {a b c : Tm} {ds : List Dat} : denTs ν [a, b, c] = some ds ↔ ∃ x y z, denT ν a = some x ∧ denT ν b = some y ∧ denT ν c = some z ∧ ds = [x, y, z] := by
 constructor
 ·intro h
  obtain ⟨x, r, h1, h2, rfl⟩ := denTs_cons h
  obtain ⟨y, z, h3, h4, rfl⟩ := denTs2.1 h2
  exact ⟨x, y, z, h1, h3, h4, rfl⟩
 ·rintro ⟨x, y, z, h1, h2, h3, rfl⟩
  exact denTs_mk h1 (denTs2.2 ⟨y, z, h2, h3, rfl⟩)
theorem denTs5 {a b c e f : Tm} {ds : List Dat} : denTs ν [a, b, c, e, f] = some ds ↔ ∃ x y z u v, denT ν a = some x ∧ denT ν b = some y ∧ denT ν c = some z ∧ denT ν e = some u ∧ denT ν f = some v ∧ ds = [x, y, z, u, v] := by
 constructor
 ·intro h
  obtain ⟨x, r, h1, h2, rfl⟩ := denTs_cons h
  obtain ⟨y, r, h3, h4, rfl⟩ := denTs_cons h2
  obtain ⟨z, u, v, h5, h6, h7, rfl⟩ := denTs3.1 h4
  exact ⟨x, y, z, u, v, h1, h3, h5, h6, h7, rfl⟩
 ·rintro ⟨x, y, z, u, v, h1, h2, h3, h4, h5, rfl⟩
  exact denTs_mk h1 (denTs_mk h2 (denTs3.2 ⟨z, u, v, h3, h4, h5, rfl⟩))
theorem den_T1 {o : Nat} (h : totN o = true) {a : Tm} {d : Dat} : denT ν (.f o [a]) = some d ↔ ∃ x, denT ν a = some x ∧ d = .n (uI o [x]) := by
 rw [den_T h]
 constructor
 ·rintro ⟨ds, h1, rfl⟩
  obtain ⟨x, h2, rfl⟩ := denTs1.1 h1
  exact ⟨x, h2, rfl⟩
 ·rintro ⟨x, h1, rfl⟩
  exact ⟨_, denTs1.2 ⟨x, h1, rfl⟩, rfl⟩
theorem den_T2 {o : Nat} (h : totN o = true) {a b : Tm} {d : Dat} : denT ν (.f o [a, b]) = some d ↔ ∃ x y, denT ν a = some x ∧ denT ν b = some y ∧ d = .n (uI o [x, y]) := by
 rw [den_T h]
 constructor
 ·rintro ⟨ds, h1, rfl⟩
  obtain ⟨x, y, h2, h3, rfl⟩ := denTs2.1 h1
  exact ⟨x, y, h2, h3, rfl⟩
 ·rintro ⟨x, y, h1, h2, rfl⟩
  exact ⟨_, denTs2.2 ⟨x, y, h1, h2, rfl⟩, rfl⟩
theorem den_T3 {o : Nat} (h : totN o = true) {a b c : Tm} {d : Dat} : denT ν (.f o [a, b, c]) = some d ↔ ∃ x y z, denT ν a = some x ∧ denT ν b = some y ∧ denT ν c = some z ∧ d = .n (uI o [x, y, z]) := by
 rw [den_T h]
 constructor
 ·rintro ⟨ds, h1, rfl⟩
  obtain ⟨x, y, z, h2, h3, h4, rfl⟩ := denTs3.1 h1
  exact ⟨x, y, z, h2, h3, h4, rfl⟩
 ·rintro ⟨x, y, z, h1, h2, h3, rfl⟩
  exact ⟨_, denTs3.2 ⟨x, y, z, h1, h2, h3, rfl⟩, rfl⟩
theorem den_T5 {o : Nat} (h : totN o = true) {a b c e f : Tm} {d : Dat} : denT ν (.f o [a, b, c, e, f]) = some d ↔ ∃ x y z u v, denT ν a = some x ∧ denT ν b = some y ∧ denT ν c = some z ∧ denT ν e = some u ∧ denT ν f = some v ∧ d = .n (uI o [x, y, z, u, v]) := by
 rw [den_T h]
 constructor
 ·rintro ⟨ds, h1, rfl⟩
  obtain ⟨x, y, z, u, v, h2, h3, h4, h5, h6, rfl⟩ := denTs5.1 h1
  exact ⟨x, y, z, u, v, h2, h3, h4, h5, h6, rfl⟩
 ·rintro ⟨x, y, z, u, v, h1, h2, h3, h4, h5, rfl⟩
  exact ⟨_, denTs5.2 ⟨x, y, z, u, v, h1, h2, h3, h4, h5, rfl⟩, rfl⟩
theorem i01_ne (b : Bool) : decide (i01 b ≠ 0) = b := by cases b <;> rfl
theorem i01_dec {c b : Bool} (h : decide (i01 c ≠ 0) = b) : c = b := (i01_ne c).symm.trans h
theorem so_T1 {o : Nat} (h : totN o = true) {a : Tm} {b : Bool} {f : Dat → Bool} (hf : ∀ x, uI o [x] = i01 (f x)) : IsSo ν (.f o [a]) b ↔ ∃ x, denT ν a = some x ∧ f x = b := by
 constructor
 ·rintro ⟨n, h1, h2⟩
  obtain ⟨x, k1, k2⟩ := (den_T1 h).1 h1
  injection k2 with k2
  rw [k2, hf] at h2
  exact ⟨x, k1, i01_dec h2⟩
 ·rintro ⟨x, k1, rfl⟩
  exact ⟨_, (den_T1 h).2 ⟨x, k1, rfl⟩, by rw [hf, i01_ne]⟩
theorem so_T2 {o : Nat} (h : totN o = true) {a c : Tm} {b : Bool} {f : Dat → Dat → Bool} (hf : ∀ x y, uI o [x, y] = i01 (f x y)) : IsSo ν (.f o [a, c]) b ↔ ∃ x y, denT ν a = some x ∧ denT ν c = some y ∧ f x y = b := by
 constructor
 ·rintro ⟨n, h1, h2⟩
  obtain ⟨x, y, k1, k3, k2⟩ := (den_T2 h).1 h1
  injection k2 with k2
  rw [k2, hf] at h2
  exact ⟨x, y, k1, k3, i01_dec h2⟩
 ·rintro ⟨x, y, k1, k3, rfl⟩
  exact ⟨_, (den_T2 h).2 ⟨x, y, k1, k3, rfl⟩, by rw [hf, i01_ne]⟩
theorem so_T3 {o : Nat} (h : totN o = true) {a c e : Tm} {b : Bool} {f : Dat → Dat → Dat → Bool} (hf : ∀ x y z, uI o [x, y, z] = i01 (f x y z)) : IsSo ν (.f o [a, c, e]) b ↔ ∃ x y z, denT ν a = some x ∧ denT ν c = some y ∧ denT ν e = some z ∧ f x y z = b := by
 constructor
 ·rintro ⟨n, h1, h2⟩
  obtain ⟨x, y, z, k1, k3, k4, k2⟩ := (den_T3 h).1 h1
  injection k2 with k2
  rw [k2, hf] at h2
  exact ⟨x, y, z, k1, k3, k4, i01_dec h2⟩
 ·rintro ⟨x, y, z, k1, k3, k4, rfl⟩
  exact ⟨_, (den_T3 h).2 ⟨x, y, z, k1, k3, k4, rfl⟩, by rw [hf, i01_ne]⟩
theorem so_T5 {o : Nat} (h : totN o = true) {a c e p q : Tm} {b : Bool} {f : Dat → Dat → Dat → Dat → Dat → Bool} (hf : ∀ x y z u v, uI o [x, y, z, u, v] = i01 (f x y z u v)) : IsSo ν (.f o [a, c, e, p, q]) b ↔ ∃ x y z u v, denT ν a = some x ∧ denT ν c = some y ∧ denT ν e = some z ∧ denT ν p = some u ∧ denT ν q = some v ∧ f x y z u v = b := by
 constructor
 ·rintro ⟨n, h1, h2⟩
  obtain ⟨x, y, z, u, v, k1, k3, k4, k5, k6, k2⟩ := (den_T5 h).1 h1
  injection k2 with k2
  rw [k2, hf] at h2
  exact ⟨x, y, z, u, v, k1, k3, k4, k5, k6, i01_dec h2⟩
 ·rintro ⟨x, y, z, u, v, k1, k3, k4, k5, k6, rfl⟩
  exact ⟨_, (den_T5 h).2 ⟨x, y, z, u, v, k1, k3, k4, k5, k6, rfl⟩, by rw [hf, i01_ne]⟩
theorem so_OKR {r : Tm} {b : Bool} : IsSo ν (OKR r) b ↔ ∃ x, denT ν r = some x ∧ okZ (numOf x) = b := so_T1 (f := fun x => okZ (numOf x)) rfl fun _ => rfl
theorem den_ATR {r : Tm} {d : Dat} : denT ν (ATR r) = some d ↔ ∃ x, denT ν r = some x ∧ d = .n (atZ (numOf x)) := den_T1 rfl
theorem den_OKR {r : Tm} {d : Dat} : denT ν (OKR r) = some d ↔ ∃ x, denT ν r = some x ∧ d = .n (i01 (okZ (numOf x))) := den_T1 rfl
theorem den_STEP {s r m : Tm} {d : Dat} : denT ν (STEP s r m) = some d ↔ ∃ x y z, denT ν s = some x ∧ denT ν r = some y ∧ denT ν m = some z ∧ d = .n (stepZ (strOf x) (numOf y) (numOf z)) := den_T3 rfl
theorem den_VAL {s r m : Tm} {d : Dat} : denT ν (VAL s r m) = some d ↔ ∃ x y z, denT ν s = some x ∧ denT ν r = some y ∧ denT ν m = some z ∧ d = .n (valZ (strOf x) (numOf y) (numOf z)) := den_T3 rfl
theorem drop_at {l : List UInt8} {i : Nat} {b : UInt8} (h : l[i]? = some b) : l.drop i = b :: l.drop (i + 1) := by
 obtain ⟨hi, rfl⟩ := List.getElem?_eq_some_iff.1 h
 exact List.drop_eq_getElem_cons hi
theorem rd1_small {b : UInt8} {r : List UInt8} (h : b.toNat < 128) : rd1 (b :: r) = (1, some b.toNat) := by
 simp only [rd1, h, if_true]
theorem rd1_bad {b : UInt8} {r : List UInt8} (h : ¬b.toNat < 128) (h2 : b.toNat - 128 < 1 ∨ 8 < b.toNat - 128 ∨ r.length < b.toNat - 128) : rd1 (b :: r) = (1, none) := by
 simp only [rd1, h, if_false, h2, if_true]
theorem rd1_big {b : UInt8} {r : List UInt8} {k : Nat} (hk : b.toNat = 128 + k) (h1 : 1 ≤ k) (h8 : k ≤ 8) (hr : k ≤ r.length) : rd1 (b :: r) = (1 + k, if 0 < (r.headD 0).toNat ∧ 128 ≤ beN (r.take k) then some (beN (r.take k)) else none) := by
 have e1 : ¬b.toNat < 128 := by omega
 have e2 : b.toNat - 128 = k := by omega
 have e3 : ¬(k < 1 ∨ 8 < k ∨ r.length < k) := by omega
 simp only [rd1, e1, if_false, e2, e3]
 split <;> rfl
theorem step_neg {l : List UInt8} {ρ m : Int} (h : ρ < 0) : stepZ l ρ m = ρ ∧ valZ l ρ m = 0 := by
 simp only [stepZ, valZ, h, if_true, and_self]
theorem step_ok {l : List UInt8} {ρ m : Int} {c n : Nat} (h0 : 0 ≤ ρ) (h : rd1 (l.drop ρ.toNat) = (c, some n)) (hm : (n : Int) ≤ m) : stepZ l ρ m = ρ + c ∧ valZ l ρ m = n := by
 have e : ¬ρ < 0 := by omega
 have e2 : okN m (some n) = true := decide_eq_true hm
 simp only [stepZ, valZ, e, if_false, h, e2, if_true, Option.getD_some, and_self]
theorem step_no {l : List UInt8} {ρ m : Int} {c : Nat} {q : Option Nat} (h0 : 0 ≤ ρ) (h : rd1 (l.drop ρ.toNat) = (c, q)) (hm : okN m q = false) : stepZ l ρ m = -1 - (ρ + c) ∧ valZ l ρ m = 0 := by
 have e : ¬ρ < 0 := by omega
 simp [stepZ, valZ, e, h, hm]
theorem at_pos {ρ : Int} (h : 0 ≤ ρ) (h2 : ρ ≤ 4611686018427387904) : atZ ρ = ρ := by
 unfold atZ
 split <;> omega
theorem at_turn {ρ : Int} (h : 0 ≤ ρ) : atZ (-1 - ρ) = atZ ρ := by
 unfold atZ
 split <;> split <;> omega
def WayIs (s r m : Tm) (w : Way) : Prop := ∀ ν : Nm, AllSo ν w.hs → ∃ S R M, denT ν s = some S ∧ denT ν r = some R ∧ denT ν m = some M ∧
 (∀ d, denT ν w.v = some d → d = .n (valZ (strOf S) (numOf R) (numOf M))) ∧ (∀ d, denT ν w.a = some d → d = .n (atZ (stepZ (strOf S) (numOf R) (numOf M)))) ∧ ∀ d, denT ν w.ok = some d → d = .n (i01 (okZ (stepZ (strOf S) (numOf R) (numOf M))))
theorem WayIs.eqs {s r m : Tm} {w : Way} (h : WayIs s r m w) : ∀ e ∈ wayEqs s r m w, TEqIs e := by
 intro e he
 simp only [wayEqs, List.mem_cons, List.mem_nil_iff, or_false] at he
 rcases he with rfl | rfl | rfl
 ·intro ν hs d hd
  obtain ⟨S, R, M, h1, h2, h3, h4, _, _⟩ := h ν hs
  rw [h4 d hd]
  exact den_VAL.2 ⟨S, R, M, h1, h2, h3, rfl⟩
 ·intro ν hs d hd
  obtain ⟨S, R, M, h1, h2, h3, _, h4, _⟩ := h ν hs
  rw [h4 d hd]
  exact den_ATR.2 ⟨_, den_STEP.2 ⟨S, R, M, h1, h2, h3, rfl⟩, rfl⟩
 ·intro ν hs d hd
  obtain ⟨S, R, M, h1, h2, h3, _, _, h4⟩ := h ν hs
  rw [h4 d hd]
  exact den_OKR.2 ⟨_, den_STEP.2 ⟨S, R, M, h1, h2, h3, rfl⟩, rfl⟩
theorem den_cn {n : Int} {d : Dat} (h : denT ν (.c n) = some d) : d = .n n := by
 simp only [denT, Option.some.injEq] at h
 exact h.symm
theorem IsN.d {t : Tm} (h : IsN ν t) {d : Dat} (hd : denT ν t = some d) : d = .n (nev ν t) := by
 rw [← ev_den hd]
 exact h
theorem way_of {s r m : Tm} {w : Way} (iv : ∀ ν, IsN ν w.v) (ia : ∀ ν, IsN ν w.a) (io : ∀ ν, IsN ν w.ok)
  (h : ∀ ν : Nm, AllSo ν w.hs → ∃ S R M, denT ν s = some S ∧ denT ν r = some R ∧ denT ν m = some M ∧ nev ν w.v = valZ (strOf S) (numOf R) (numOf M) ∧ nev ν w.a = atZ (stepZ (strOf S) (numOf R) (numOf M)) ∧ nev ν w.ok = i01 (okZ (stepZ (strOf S) (numOf R) (numOf M)))) : WayIs s r m w := fun ν hs => by
 obtain ⟨S, R, M, h1, h2, h3, h4, h5, h6⟩ := h ν hs
 exact ⟨S, R, M, h1, h2, h3, fun d hd => by rw [(iv ν).d hd, h4], fun d hd => by rw [(ia ν).d hd, h5], fun d hd => by rw [(io ν).d hd, h6]⟩
theorem nev_ATR {r : Tm} {R : Dat} (h : denT ν r = some R) : nev ν (ATR r) = atZ (numOf R) := by
 unfold nev
 rw [ev_den (den_ATR.2 ⟨R, h, rfl⟩)]
 rfl
theorem nev_OKR {r : Tm} {R : Dat} (h : denT ν r = some R) : nev ν (OKR r) = i01 (okZ (numOf R)) := by
 unfold nev
 rw [ev_den (den_OKR.2 ⟨R, h, rfl⟩)]
 rfl
theorem isN_ATR (r : Tm) : IsN ν (ATR r) := isN_tot rfl (by decide)
theorem isN_OKR (r : Tm) : IsN ν (OKR r) := isN_tot rfl (by decide)
theorem wr64 {x : Int} (h1 : -9223372036854775808 ≤ x) (h2 : x ≤ 9223372036854775807) : IntKind.i64.wrap x = x := wrap_in h1 h2
theorem wu64 {x : Int} (h1 : 0 ≤ x) (h2 : x ≤ 18446744073709551615) : IntKind.u64.wrap x = x := wrap_in h1 h2
theorem wu8 {x : Int} (h1 : 0 ≤ x) (h2 : x ≤ 255) : IntKind.u8.wrap x = x := wrap_in h1 h2
theorem numOf_n (n : Int) : numOf (.n n) = n := rfl
theorem okZ_true {ρ : Int} : okZ ρ = true ↔ 0 ≤ ρ := by unfold okZ; exact decide_eq_true_iff
theorem okZ_false {ρ : Int} : okZ ρ = false ↔ ρ < 0 := by
 unfold okZ
 rw [decide_eq_false_iff_not]
 omega
theorem c0 {s r m : Tm} {b : Bool} (h1 : IsSo ν (OKR r) b) (h2 : IsSo ν (sz4 s).1 true) (h3 : IsSo ν (geK .u64 m).1 true) :
  ∃ S R M, denT ν s = some S ∧ denT ν r = some R ∧ denT ν m = some (.n M) ∧ 0 ≤ M ∧ okZ (numOf R) = b ∧ nev ν (LEN s) = lenZ S ∧ 0 ≤ lenZ S ∧ lenZ S ≤ 1000000000000000 ∧ nev ν m = M := by
 obtain ⟨R, hR, hok⟩ := so_OKR.1 h1
 obtain ⟨x, y, k1, k2, k3⟩ := so_leq h2
 obtain ⟨S, n, hS, hn, rfl⟩ := len_row k1
 cases den_c k2
 obtain ⟨M, z, g1, g2, g3⟩ := so_geq h3
 cases den_c g2
 have hl : lenZ S = n := by
  cases S <;> simp only [lenDat, Option.some.injEq] at hn <;> first | (cases hn; done) | (subst hn; rfl)
 refine ⟨S, R, M, hS, hR, g1, of_decide_eq_true g3, hok, ?_, ?_, ?_, ?_⟩
 ·show nev ν (.f 0 [s]) = _
  rw [nev_len, ev_den hS]
 ·omega
 ·have := of_decide_eq_true k3
  omega
 ·unfold nev; rw [ev_den g1]; rfl
theorem gone_ev {s k a : Tm} {b : Bool} {L A K : Int} (h : IsSo ν (gone s k a) b) (hL : nev ν (LEN s) = L) (hA : nev ν a = A) (hK : nev ν k = K) (h0 : 0 ≤ L) (h1 : L ≤ 1000000000000000) (h2 : 0 ≤ A) (h3 : A ≤ 4611686018427387905) : decide (K > L - A) = b := by
 have := ev_gtr.1 (so_ev h)
 rw [nev_sub, hL, hA, hK, wr64 (by omega) (by omega)] at this
 exact this
theorem atZ_le (ρ : Int) (h : 0 ≤ ρ) : atZ ρ ≤ ρ := by unfold atZ; split <;> omega
theorem atZ_of {ρ L : Int} (h : 0 ≤ ρ) (h1 : 1 ≤ L - atZ ρ) (h2 : L ≤ 1000000000000000) : atZ ρ = ρ := by
 refine at_pos h (Int.not_lt.1 fun hc => ?_)
 have : atZ ρ = 4611686018427387904 := by unfold atZ; split <;> omega
 omega
theorem drop_nil {l : List UInt8} {ρ : Int} (h : (l.length : Int) ≤ ρ) : l.drop ρ.toNat = [] := List.drop_eq_nil_of_le (by omega)
theorem lenSt (S : Dat) : ((strOf S).length : Int) ≤ lenZ S := by
 cases S <;> simp [strOf, lenZ]
theorem way1 : WayIs (.x 0) (.x 1) (.x 2) ⟨[(OKR (.x 1), false), sz4 (.x 0), geK .u64 (.x 2)], .c 0, ATR (.x 1), .c 0⟩ := way_of (fun _ => isN_c _) (fun _ => isN_ATR _) (fun _ => isN_c _) fun ν hs => by
 obtain ⟨h1, h2, h3, _⟩ := hs
 obtain ⟨S, R, M, hS, hR, hm, hM, hok, hl, l0, l1, hmm⟩ := c0 h1 h2 h3
 have h := okZ_false.1 hok
 obtain ⟨e1, e2⟩ := step_neg (l := strOf S) (m := M) h
 refine ⟨S, R, .n M, hS, hR, hm, ?_, ?_, ?_⟩
 ·rw [nev_c, numOf_n, e2]
 ·rw [nev_ATR hR, numOf_n, e1]
 ·rw [nev_c, numOf_n, e1, hok]; rfl
theorem way2 : WayIs (.x 0) (.x 1) (.x 2) ⟨[fine (.x 1), sz4 (.x 0), geK .u64 (.x 2), (gone (.x 0) (.c 1) (ATR (.x 1)), true)], .c 0, ATR (.x 1), .c 0⟩ := way_of (fun _ => isN_c _) (fun _ => isN_ATR _) (fun _ => isN_c _) fun ν hs => by
 obtain ⟨h1, h2, h3, h4, _⟩ := hs
 obtain ⟨S, R, M, hS, hR, hm, hM, hok, hl, l0, l1, hmm⟩ := c0 h1 h2 h3
 have h := okZ_true.1 hok
 have ha := atZ_rng (numOf R)
 have g := of_decide_eq_true (gone_ev h4 hl (nev_ATR hR) (nev_c 1) l0 l1 ha.1 (by omega))
 have hd : (strOf S).drop (numOf R).toNat = [] := drop_nil (by have := lenSt S; have := atZ_le _ h; omega)
 obtain ⟨e1, e2⟩ := step_no (l := strOf S) (ρ := numOf R) (m := M) (c := 0) (q := none) h (by rw [hd]; rfl) rfl
 refine ⟨S, R, .n M, hS, hR, hm, ?_, ?_, ?_⟩
 ·rw [nev_c, numOf_n, e2]
 ·rw [nev_ATR hR, numOf_n, e1, at_turn (by omega)]
  congr 1
  omega
 ·rw [nev_c, numOf_n, e1]
  rw [show okZ (-1 - (numOf R + (0 : Nat))) = false from okZ_false.2 (by omega)]
  rfl
theorem str_of {s i j : Tm} {hs : List (Tm × Bool)} (h : occL (PART s i j) hs = true) (k : AllSo ν hs) : ∃ l, denT ν s = some (.s l) := by
 obtain ⟨x, hx⟩ := occL_den h k
 obtain ⟨l, _, _, h1, _⟩ := den_f8.1 hx
 exact ⟨l, h1⟩
theorem evD_PART {s i j : Tm} {l : List UInt8} {x y : Int} (ha : evD ν s = .s l) (hi : IsN ν i) (hj : IsN ν j) (ei : nev ν i = x) (ej : nev ν j = y) (h1 : 0 ≤ x) (h2 : x ≤ y) (h3 : y ≤ l.length) : evD ν (PART s i j) = .s ((l.drop x.toNat).take (y.toNat - x.toNat)) := by
 subst ei ej
 exact evD_part ha hi hj h1 h2 h3
theorem c1 {hs : List (Tm × Bool)} (hocc : occL (PART (.x 0) (ATR (.x 1)) (add1 (ATR (.x 1)))) hs = true) (k : AllSo ν hs) (h1 : AllSo ν (hs1 (.x 0) (.x 1) (.x 2))) :
  ∃ l R M b t, denT ν (.x 0) = some (.s l) ∧ denT ν (.x 1) = some R ∧ denT ν (.x 2) = some (.n M) ∧ 0 ≤ M ∧ 0 ≤ numOf R ∧ (l.length : Int) ≤ 1000000000000000 ∧ numOf R < l.length ∧ nev ν (ATR (.x 1)) = numOf R ∧ nev ν (.x 2) = M ∧
   l.drop (numOf R).toNat = b :: t ∧ nev ν (FB (.x 0) (.x 1)) = b.toNat ∧ nev ν (add1 (ATR (.x 1))) = numOf R + 1 ∧ l.drop ((numOf R).toNat + 1) = t := by
 obtain ⟨l, hl⟩ := str_of hocc k
 obtain ⟨g1, g2, g3, g4, _⟩ := h1
 obtain ⟨S, R, M, hS, hR, hm, hM, hok, hL, l0, l1, hmm⟩ := c0 g1 g2 g3
 rw [hl] at hS
 injection hS with hS
 subst hS
 have h := okZ_true.1 hok
 have ha := atZ_rng (numOf R)
 have g := of_decide_eq_false (gone_ev g4 hL (nev_ATR hR) (nev_c 1) l0 l1 ha.1 (by omega))
 have e : atZ (numOf R) = numOf R := atZ_of h (by omega) l1
 have hlen : lenZ (.s l) = l.length := rfl
 have hlt : (numOf R).toNat < l.length := by omega
 obtain ⟨b, hb⟩ : ∃ b, l[(numOf R).toNat]? = some b := ⟨_, List.getElem?_eq_getElem hlt⟩
 have hat : nev ν (ATR (.x 1)) = numOf R := by rw [nev_ATR hR, e]
 have had : nev ν (add1 (ATR (.x 1))) = numOf R + 1 := by
  show nev ν (.bin .add .i64 _ _) = _
  rw [nev_add, hat, nev_c, wr64 (by omega) (by omega)]
 refine ⟨l, R, M, b, l.drop ((numOf R).toNat + 1), hl, hR, hm, hM, h, by omega, by omega, hat, hmm, drop_at hb, ?_, had, rfl⟩
 have hp : evD ν (PART (.x 0) (ATR (.x 1)) (add1 (ATR (.x 1)))) = .s [b] := by
  rw [evD_PART (j := add1 (ATR (.x 1))) (ev_den hl) (isN_ATR _) (isN_bin ..) hat had h (by omega) (by omega)]
  have e1 : (numOf R + 1).toNat - (numOf R).toNat = 1 := by omega
  rw [e1, drop_at hb]
  rfl
 show nev ν (.conv .i64 (.f 9 _)) = _
 have hb0 := nev_byte (ν := ν) (i := .c 0) hp (isN_c 0) (by rw [nev_c]; decide) (b := b) (by rw [nev_c]; rfl)
 rw [nev_conv, hb0]
 have := b.toNat_lt
 exact wr64 (by omega) (by omega)
theorem ok_i01 {ρ : Int} (h : 0 ≤ ρ) : i01 (okZ ρ) = 1 := by rw [okZ_true.2 h]; rfl
theorem no_i01 {ρ : Int} (h : ρ < 0) : i01 (okZ ρ) = 0 := by rw [okZ_false.2 h]; rfl
theorem at_no {ρ c L : Int} (h : 0 ≤ ρ + c) (h2 : ρ + c ≤ L) (h3 : L ≤ 1000000000000000) : atZ (-1 - (ρ + c)) = ρ + c := by
 rw [at_turn h, at_pos h (by omega)]
theorem told_ok {l : List UInt8} {ρ M : Int} {c n : Nat} (h0 : 0 ≤ ρ) (h : rd1 (l.drop ρ.toNat) = (c, some n)) (hm : (n : Int) ≤ M) (hc : ρ + c ≤ l.length) (hl : (l.length : Int) ≤ 1000000000000000) :
  valZ l ρ M = n ∧ atZ (stepZ l ρ M) = ρ + c ∧ i01 (okZ (stepZ l ρ M)) = 1 := by
 obtain ⟨e1, e2⟩ := step_ok h0 h hm
 exact ⟨e2, by rw [e1, at_pos (by omega) (by omega)], by rw [e1]; exact ok_i01 (by omega)⟩
theorem told_no {l : List UInt8} {ρ M : Int} {c : Nat} {q : Option Nat} (h0 : 0 ≤ ρ) (h : rd1 (l.drop ρ.toNat) = (c, q)) (hm : okN M q = false) (hc : ρ + c ≤ l.length) (hl : (l.length : Int) ≤ 1000000000000000) :
  valZ l ρ M = 0 ∧ atZ (stepZ l ρ M) = ρ + c ∧ i01 (okZ (stepZ l ρ M)) = 0 := by
 obtain ⟨e1, e2⟩ := step_no h0 h hm
 exact ⟨e2, by rw [e1, at_no (by omega) hc hl], by rw [e1]; exact no_i01 (by omega)⟩
theorem isN_add1 (t : Tm) : IsN ν (add1 t) := isN_bin ..
theorem way_no {w : Way} {hsO : List (Tm × Bool)} (iv : ∀ ν, IsN ν w.v) (ia : ∀ ν, IsN ν w.a) (io : ∀ ν, IsN ν w.ok) (hO : ∀ {ν : Nm}, AllSo ν w.hs → AllSo ν hsO) (hocc : occL (PART (.x 0) (ATR (.x 1)) (add1 (ATR (.x 1)))) hsO = true) (h1 : ∀ {ν : Nm}, AllSo ν w.hs → AllSo ν (hs1 (.x 0) (.x 1) (.x 2)))
  (h : ∀ (ν : Nm) (l : List UInt8) (R : Dat) (M : Int) (b : UInt8) (t : List UInt8), AllSo ν w.hs → denT ν (.x 0) = some (.s l) → denT ν (.x 1) = some R → 0 ≤ M → 0 ≤ numOf R → (l.length : Int) ≤ 1000000000000000 → numOf R < l.length → nev ν (ATR (.x 1)) = numOf R → nev ν (.x 2) = M →
   l.drop (numOf R).toNat = b :: t → nev ν (FB (.x 0) (.x 1)) = b.toNat → nev ν (add1 (ATR (.x 1))) = numOf R + 1 → l.drop ((numOf R).toNat + 1) = t →
   nev ν w.v = valZ l (numOf R) M ∧ nev ν w.a = atZ (stepZ l (numOf R) M) ∧ nev ν w.ok = i01 (okZ (stepZ l (numOf R) M))) : WayIs (.x 0) (.x 1) (.x 2) w := way_of iv ia io fun ν hs => by
 obtain ⟨l, R, M, b, t, k1, k2, k3, k4, k5, k6, k7, k8, k9, k10, k11, k12, k13⟩ := c1 hocc (hO hs) (h1 hs)
 obtain ⟨e1, e2, e3⟩ := h ν l R M b t hs k1 k2 k4 k5 k6 k7 k8 k9 k10 k11 k12 k13
 exact ⟨.s l, R, .n M, k1, k2, k3, e1, e2, e3⟩
theorem u64_byte {t : Tm} {b : UInt8} (h : nev ν t = b.toNat) : nev ν (u64 t) = b.toNat := by
 show nev ν (.conv .u64 t) = _
 have := b.toNat_lt
 rw [nev_conv, h, wu64 (by omega) (by omega)]
theorem way3 : WayIs (.x 0) (.x 1) (.x 2) ⟨atMost (u64 (FB (.x 0) (.x 1))) (.x 2) false :: small128 (.x 0) (.x 1) true :: hs1 (.x 0) (.x 1) (.x 2), .c 0, add1 (ATR (.x 1)), .c 0⟩ :=
 way_no (fun _ => isN_c _) (fun _ => isN_add1 _) (fun _ => isN_c _) (fun h => h) rfl (fun h => h.2.2) fun ν l R M b t hs hl hR hM h0 hlen hlt hat hmm hd hf ha ht => by
  have g1 := ev_leq.1 (so_ev hs.1)
  rw [u64_byte hf, hmm] at g1
  have g2 := of_decide_eq_true (ev_lss.1 (so_ev hs.2.1))
  rw [hf, nev_c] at g2
  obtain ⟨e1, e2, e3⟩ := told_no (M := M) h0 (hd ▸ rd1_small (r := t) (by omega : b.toNat < 128)) (show okN M (some b.toNat) = false from g1) (by omega) hlen
  rw [nev_c, ha, e1, e2, e3]
  exact ⟨rfl, rfl, rfl⟩
theorem way4 : WayIs (.x 0) (.x 1) (.x 2) ⟨atMost (u64 (FB (.x 0) (.x 1))) (.x 2) true :: small128 (.x 0) (.x 1) true :: hs1 (.x 0) (.x 1) (.x 2), u64 (FB (.x 0) (.x 1)), add1 (ATR (.x 1)), OKR (.x 1)⟩ :=
 way_no (fun _ => isN_conv ..) (fun _ => isN_add1 _) (fun _ => isN_OKR _) (fun h => h) rfl (fun h => h.2.2) fun ν l R M b t hs hl hR hM h0 hlen hlt hat hmm hd hf ha ht => by
  have g1 := of_decide_eq_true (ev_leq.1 (so_ev hs.1))
  rw [u64_byte hf, hmm] at g1
  have g2 := of_decide_eq_true (ev_lss.1 (so_ev hs.2.1))
  rw [hf, nev_c] at g2
  obtain ⟨e1, e2, e3⟩ := told_ok (M := M) h0 (hd ▸ rd1_small (r := t) (by omega : b.toNat < 128)) g1 (by omega) hlen
  rw [u64_byte hf, ha, nev_OKR hR, e1, e2, e3]
  exact ⟨rfl, rfl, ok_i01 h0⟩
theorem nev_KB {b : UInt8} (h : nev ν (FB (.x 0) (.x 1)) = b.toNat) : nev ν (KB (.x 0) (.x 1)) = b.toNat - 128 := by
 show nev ν (.bin .sub .i64 (FB (.x 0) (.x 1)) (.c 128)) = _
 have := b.toNat_lt
 rw [nev_sub, h, nev_c, wr64 (by omega) (by omega)]
theorem way5 : WayIs (.x 0) (.x 1) (.x 2) ⟨(.bin .lss .i64 (KB (.x 0) (.x 1)) (.c 1), true) :: hs2 (.x 0) (.x 1) (.x 2), .c 0, add1 (ATR (.x 1)), .c 0⟩ :=
 way_no (fun _ => isN_c _) (fun _ => isN_add1 _) (fun _ => isN_c _) (fun h => h) rfl (fun h => h.2.2) fun ν l R M b t hs hl hR hM h0 hlen hlt hat hmm hd hf ha ht => by
  have g1 := of_decide_eq_true (ev_lss.1 (so_ev hs.1))
  rw [nev_KB hf, nev_c] at g1
  have g2 := of_decide_eq_false (ev_lss.1 (so_ev hs.2.1))
  rw [hf, nev_c] at g2
  obtain ⟨e1, e2, e3⟩ := told_no (M := M) h0 (hd ▸ rd1_bad (r := t) (by omega : ¬b.toNat < 128) (by omega)) rfl (by omega) hlen
  rw [nev_c, ha, e1, e2, e3]
  exact ⟨rfl, rfl, rfl⟩
theorem way6 : WayIs (.x 0) (.x 1) (.x 2) ⟨(.bin .gtr .i64 (KB (.x 0) (.x 1)) (.c 8), true) :: hs2 (.x 0) (.x 1) (.x 2), .c 0, add1 (ATR (.x 1)), .c 0⟩ :=
 way_no (fun _ => isN_c _) (fun _ => isN_add1 _) (fun _ => isN_c _) (fun h => h) rfl (fun h => h.2.2) fun ν l R M b t hs hl hR hM h0 hlen hlt hat hmm hd hf ha ht => by
  have g1 := of_decide_eq_true (ev_gtr.1 (so_ev hs.1))
  rw [nev_KB hf, nev_c] at g1
  obtain ⟨e1, e2, e3⟩ := told_no (M := M) h0 (hd ▸ rd1_bad (r := t) (by omega : ¬b.toNat < 128) (by omega)) rfl (by omega) hlen
  rw [nev_c, ha, e1, e2, e3]
  exact ⟨rfl, rfl, rfl⟩
theorem way7 : WayIs (.x 0) (.x 1) (.x 2) ⟨(gone (.x 0) (KB (.x 0) (.x 1)) (add1 (ATR (.x 1))), true) :: k18 (KB (.x 0) (.x 1)) ++ hs2 (.x 0) (.x 1) (.x 2), .c 0, add1 (ATR (.x 1)), .c 0⟩ :=
 way_no (fun _ => isN_c _) (fun _ => isN_add1 _) (fun _ => isN_c _) (fun h => h) rfl (fun h => h.2.2.2.2) fun ν l R M b t hs hl hR hM h0 hlen hlt hat hmm hd hf ha ht => by
  obtain ⟨g1, g2, g3, g4, _⟩ := hs
  have g4 := of_decide_eq_false (ev_lss.1 (so_ev g4))
  rw [hf, nev_c] at g4
  have hL : nev ν (LEN (.x 0)) = l.length := by
   show nev ν (.f 0 [.x 0]) = _
   rw [nev_len, ev_den hl]
   rfl
  have g1 := of_decide_eq_true (gone_ev g1 hL ha (nev_KB hf) (by omega) (by omega) (by omega) (by omega))
  have htl : t.length = l.length - ((numOf R).toNat + 1) := by rw [← ht, List.length_drop]
  obtain ⟨e1, e2, e3⟩ := told_no (M := M) h0 (hd ▸ rd1_bad (r := t) (by omega : ¬b.toNat < 128) (by omega)) rfl (by omega) hlen
  rw [nev_c, ha, e1, e2, e3]
  exact ⟨rfl, rfl, rfl⟩
theorem or_u64 {x y : Nat} (hx : x % 256 = 0) (hy : y < 256) (h : x + y < 18446744073709551616) : IntKind.u64.wrap ((BitVec.ofInt IntKind.u64.bits (x : Int) ||| BitVec.ofInt IntKind.u64.bits (y : Int)).toNat : Int) = ((x + y : Nat) : Int) := by
 have e : (BitVec.ofInt 64 (x : Int) ||| BitVec.ofInt 64 (y : Int)).toNat = x + y := by
  rw [BitVec.toNat_or, BitVec.ofInt_natCast, BitVec.ofInt_natCast, BitVec.toNat_ofNat, BitVec.toNat_ofNat, Nat.mod_eq_of_lt (by omega), Nat.mod_eq_of_lt (by omega)]
  have hs : x = (x / 256) <<< 8 := by rw [Nat.shiftLeft_eq]; omega
  rw [hs, ← Nat.shiftLeft_add_eq_or_of_lt (by omega : y < 2 ^ 8)]
 show IntKind.u64.wrap ((BitVec.ofInt 64 (x : Int) ||| BitVec.ofInt 64 (y : Int)).toNat : Int) = _
 rw [e]
 exact wu64 (by omega) (by omega)
theorem beN_snoc (l : List UInt8) (b : UInt8) : beN (l ++ [b]) = 256 * beN l + b.toNat := by
 unfold beN
 rw [List.foldl_append]
 rfl
theorem beN_take {t : List UInt8} {j : Nat} {b : UInt8} (h : t[j]? = some b) : beN (t.take (j + 1)) = 256 * beN (t.take j) + b.toNat := by
 have e : t.take (j + 1) = t.take j ++ [b] := by
  rw [List.take_add_one, h]
  rfl
 rw [e, beN_snoc]
theorem beN_lt8 {t : List UInt8} {j : Nat} (h : j ≤ 8) : beN (t.take j) < 256 ^ j := by
 refine Nat.lt_of_lt_of_le (beN_lt _) (Nat.pow_le_pow_right (by decide) ?_)
 rw [List.length_take]
 omega
theorem isN_vt (s r : Tm) : ∀ j, IsN ν (vt s r j)
 | 0 => isN_c 0
 | 1 => isN_bin ..
 | _ + 2 => isN_bin ..
theorem nev_or2 {x y : Nat} {a b : Tm} (ha : nev ν a = x) (hb : nev ν b = y) (hx : x % 256 = 0) (hy : y < 256) (h : x + y < 18446744073709551616) : nev ν (.bin .or .u64 a b) = ((x + y : Nat) : Int) := by
 rw [nev_or, ha, hb]
 exact or_u64 hx hy h
theorem nev_vt {s r : Tm} {t : List UInt8} {K : Nat} (hp : evD ν (P1 s r) = .s (t.take K)) (hK : K ≤ 8) (ht : K ≤ t.length) : ∀ j, 1 ≤ j → j ≤ K → nev ν (vt s r j) = beN (t.take j)
 | 0, h, _ => by omega
 | 1, _, h => by
  obtain ⟨b, hb⟩ : ∃ b, t[0]? = some b := ⟨_, List.getElem?_eq_getElem (by omega)⟩
  have h1 := nev_byte (ν := ν) (i := .c 0) hp (isN_c 0) (by rw [nev_c]; decide) (b := b) (by rw [nev_c, List.getElem?_take_of_lt (show (0 : Int).toNat < K by simp; omega)]; exact hb)
  have h2 := b.toNat_lt
  have h3 := nev_or2 (x := 0) (nev_c 0) (u64_byte h1) (by decide) h2 (by omega)
  rw [beN_take hb]
  exact h3
 | j + 2, _, h => by
  have ih := nev_vt hp hK ht (j + 1) (by omega) (by omega)
  obtain ⟨b, hb⟩ : ∃ b, t[j + 1]? = some b := ⟨_, List.getElem?_eq_getElem (by omega)⟩
  have h1 := nev_byte (ν := ν) (i := .c (.ofNat (j + 1))) hp (isN_c _) (by rw [nev_c]; exact Int.natCast_nonneg _) (b := b) (by rw [nev_c]; show (t.take K)[j + 1]? = _; rw [List.getElem?_take_of_lt (by omega)]; exact hb)
  have h2 := b.toNat_lt
  have hlt := beN_lt8 (t := t) (j := j + 1) (by omega)
  have hpw : 256 ^ (j + 1) ≤ 256 ^ 7 := Nat.pow_le_pow_right (by decide) (by omega)
  have hpw : 256 ^ (j + 1) ≤ 72057594037927936 := hpw
  have h5 : nev ν (u64 (.f 7 [vt s r (j + 1), .c 8])) = ((256 * beN (t.take (j + 1)) : Nat) : Int) := by
   show nev ν (.conv .u64 _) = _
   rw [nev_conv, nev_shl _ _ (isN_vt s r (j + 1)) (isN_c 8), ih, nev_c, show (2 : Int) ^ (8 : Int).toNat = 256 from rfl, wu64 (by omega) (by omega)]
   omega
  have h3 := nev_or2 h5 (u64_byte h1) (by omega) h2 (by omega)
  rw [beN_take hb]
  exact h3
theorem c3 {k : Nat} (h1 : 1 ≤ k) (h8 : k ≤ 8) (h : AllSo ν (hs3 (.x 0) (.x 1) (.x 2) k)) : AllSo ν (hs2 (.x 0) (.x 1) (.x 2)) ∧ IsSo ν (gone (.x 0) (KB (.x 0) (.x 1)) (add1 (ATR (.x 1)))) false ∧ nev ν (KB (.x 0) (.x 1)) = k := by
 unfold hs3 at h
 rw [allSo_append, allSo_append, allSo_append] at h
 obtain ⟨⟨⟨⟨g1, q1, q2, _⟩, g5⟩, g3⟩, g4⟩ := h
 have q1 := of_decide_eq_false (ev_lss.1 (so_ev q1))
 have q2 := of_decide_eq_false (ev_gtr.1 (so_ev q2))
 rw [nev_c] at q1 q2
 refine ⟨g5, g1, ?_⟩
 have e1 : nev ν (KB (.x 0) (.x 1)) ≤ k := by
  by_cases hk : k < 8
  ·rw [if_pos hk] at g3
   have := of_decide_eq_false (ev_lss.1 (so_ev g3.1))
   rw [nev_c] at this
   have e : Int.ofNat k = (k : Int) := rfl
   omega
  ·omega
 have e2 : (k : Int) ≤ nev ν (KB (.x 0) (.x 1)) := by
  by_cases hk : 2 ≤ k
  ·rw [if_pos hk] at g4
   have := of_decide_eq_true (ev_lss.1 (so_ev g4.1))
   rw [nev_c] at this
   have e : Int.ofNat (k - 1) = ((k - 1 : Nat) : Int) := rfl
   omega
  ·omega
 omega
theorem way_big {k : Nat} (h1 : 1 ≤ k) (h8 : k ≤ 8) {q : List (Tm × Bool)} {v a ok : Tm} (iv : ∀ ν, IsN ν v) (ia : ∀ ν, IsN ν a) (io : ∀ ν, IsN ν ok)
  (h : ∀ (ν : Nm) (l : List UInt8) (R : Dat) (M : Int) (t : List UInt8), AllSo ν q → denT ν (.x 1) = some R → 0 ≤ M → 0 ≤ numOf R → (l.length : Int) ≤ 1000000000000000 → numOf R + 1 + k ≤ l.length → nev ν (.x 2) = M →
   rd1 (l.drop (numOf R).toNat) = (1 + k, if 0 < (t.headD 0).toNat ∧ 128 ≤ beN (t.take k) then some (beN (t.take k)) else none) →
   nev ν (vt (.x 0) (.x 1) k) = beN (t.take k) → nev ν (BYTE (P1 (.x 0) (.x 1)) (.c 0)) = (t.headD 0).toNat → nev ν (addI (add1 (ATR (.x 1))) (KB (.x 0) (.x 1))) = numOf R + (1 + k : Nat) →
   nev ν v = valZ l (numOf R) M ∧ nev ν a = atZ (stepZ l (numOf R) M) ∧ nev ν ok = i01 (okZ (stepZ l (numOf R) M))) : WayIs (.x 0) (.x 1) (.x 2) ⟨q ++ hs3 (.x 0) (.x 1) (.x 2) k, v, a, ok⟩ :=
 way_no (hsO := hs2 (.x 0) (.x 1) (.x 2)) iv ia io (fun h => (c3 h1 h8 (allSo_append.1 h).2).1) rfl (fun h => (c3 h1 h8 (allSo_append.1 h).2).1.2) fun ν l R M b t hs hl hR hM h0 hlen hlt hat hmm hd hf ha ht => by
  obtain ⟨hq, h3⟩ := allSo_append.1 hs
  obtain ⟨g1, g2, g3⟩ := c3 h1 h8 h3
  have hKB := nev_KB hf
  have hb : b.toNat = 128 + k := by omega
  have hL : nev ν (LEN (.x 0)) = l.length := by
   show nev ν (.f 0 [.x 0]) = _
   rw [nev_len, ev_den hl]
   rfl
  have g2 := of_decide_eq_false (gone_ev g2 hL ha g3 (by omega) (by omega) (by omega) (by omega))
  have htl : t.length = l.length - ((numOf R).toNat + 1) := by rw [← ht, List.length_drop]
  have hadd : nev ν (addI (add1 (ATR (.x 1))) (KB (.x 0) (.x 1))) = numOf R + 1 + k := by
   show nev ν (.bin .add .i64 _ _) = _
   rw [nev_add, ha, g3, wr64 (by omega) (by omega)]
  have hp : evD ν (P1 (.x 0) (.x 1)) = .s (t.take k) := by
   unfold P1
   rw [evD_PART (j := addI (add1 (ATR (.x 1))) (KB (.x 0) (.x 1))) (ev_den hl) (isN_add1 _) (isN_bin ..) ha hadd (by omega) (by omega) (by omega)]
   have e1 : (numOf R + 1 + k).toNat - (numOf R + 1).toNat = k := by omega
   have e2 : (numOf R + 1).toNat = (numOf R).toNat + 1 := by omega
   rw [e1, e2, ht]
  obtain ⟨c, hc⟩ : ∃ c, t[0]? = some c := ⟨_, List.getElem?_eq_getElem (by omega)⟩
  have hh : t.headD 0 = c := by
   cases t with
   | nil => cases hc
   | cons a t => simp only [List.getElem?_cons_zero, Option.some.injEq] at hc; exact hc
  have hb0 := nev_byte (ν := ν) (i := .c 0) hp (isN_c 0) (by rw [nev_c]; decide) (b := c) (by rw [nev_c, List.getElem?_take_of_lt (show (0 : Int).toNat < k by simp; omega)]; exact hc)
  exact h ν l R M t hq hR hM h0 hlen (by omega) hmm (hd ▸ rd1_big hb h1 h8 (by omega)) (nev_vt hp h8 (by omega) k h1 (Nat.le_refl _)) (by rw [hh]; exact hb0) (by rw [hadd]; omega)
theorem ways_big {k : Nat} (h1 : 1 ≤ k) (h8 : k ≤ 8) : ∀ w ∈ ways3 (.x 0) (.x 1) (.x 2) k, WayIs (.x 0) (.x 1) (.x 2) w := by
 intro w hw
 simp only [ways3, List.mem_cons, List.mem_nil_iff, or_false] at hw
 rcases hw with rfl | rfl | rfl | rfl
 ·refine way_big (q := [_]) h1 h8 (fun _ => isN_c _) (fun _ => isN_bin ..) (fun _ => isN_c _) fun ν l R M t hq hR hM h0 hlen hlt hmm hrd hv hb ha => ?_
  have g1 := of_decide_eq_false (ev_gtr.1 (so_ev hq.1))
  rw [hb, nev_c] at g1
  rw [if_neg (by omega)] at hrd
  obtain ⟨e1, e2, e3⟩ := told_no (M := M) h0 hrd rfl (by omega) hlen
  rw [nev_c, ha, e1, e2, e3]
  exact ⟨rfl, rfl, rfl⟩
 ·refine way_big (q := [_, _]) h1 h8 (fun _ => isN_c _) (fun _ => isN_bin ..) (fun _ => isN_c _) fun ν l R M t hq hR hM h0 hlen hlt hmm hrd hv hb ha => ?_
  have g1 := of_decide_eq_false (ev_geq.1 (so_ev hq.2.1))
  rw [hv, nev_c] at g1
  rw [if_neg (by omega)] at hrd
  obtain ⟨e1, e2, e3⟩ := told_no (M := M) h0 hrd rfl (by omega) hlen
  rw [nev_c, ha, e1, e2, e3]
  exact ⟨rfl, rfl, rfl⟩
 ·refine way_big (q := [_, _, _]) h1 h8 (fun _ => isN_c _) (fun _ => isN_bin ..) (fun _ => isN_c _) fun ν l R M t hq hR hM h0 hlen hlt hmm hrd hv hb ha => ?_
  obtain ⟨q1, q2, q3, _⟩ := hq
  have g1 := of_decide_eq_true (ev_gtr.1 (so_ev q1))
  rw [hb, nev_c] at g1
  have g2 := of_decide_eq_true (ev_geq.1 (so_ev q2))
  rw [hv, nev_c] at g2
  have g3 := ev_leq.1 (so_ev q3)
  rw [hv, hmm] at g3
  rw [if_pos ⟨by omega, by omega⟩] at hrd
  obtain ⟨e1, e2, e3⟩ := told_no (M := M) h0 hrd (show okN M (some _) = false from g3) (by omega) hlen
  rw [nev_c, ha, e1, e2, e3]
  exact ⟨rfl, rfl, rfl⟩
 ·refine way_big (q := [_, _, _]) h1 h8 (fun _ => isN_vt ..) (fun _ => isN_bin ..) (fun _ => isN_OKR _) fun ν l R M t hq hR hM h0 hlen hlt hmm hrd hv hb ha => ?_
  obtain ⟨q1, q2, q3, _⟩ := hq
  have g1 := of_decide_eq_true (ev_gtr.1 (so_ev q1))
  rw [hb, nev_c] at g1
  have g2 := of_decide_eq_true (ev_geq.1 (so_ev q2))
  rw [hv, nev_c] at g2
  have g3 := of_decide_eq_true (ev_leq.1 (so_ev q3))
  rw [hv, hmm] at g3
  rw [if_pos ⟨by omega, by omega⟩] at hrd
  obtain ⟨e1, e2, e3⟩ := told_ok (M := M) h0 hrd g3 (by omega) hlen
  rw [hv, ha, nev_OKR hR, e1, e2, e3]
  exact ⟨rfl, rfl, ok_i01 h0⟩
theorem ways_all : ∀ w ∈ ways (.x 0) (.x 1) (.x 2), WayIs (.x 0) (.x 1) (.x 2) w := by
 intro w hw
 unfold ways at hw
 simp only [List.mem_append] at hw
 rcases hw with hw | hw | hw | hw | hw | hw | hw | hw | hw
 ·simp only [ways0, List.mem_cons, List.mem_nil_iff, or_false] at hw
  rcases hw with rfl | rfl | rfl | rfl | rfl | rfl | rfl
  ·exact way1
  ·exact way2
  ·exact way3
  ·exact way4
  ·exact way5
  ·exact way6
  ·exact way7
 all_goals exact ways_big (by decide) (by decide) w hw
theorem wayEqs_is : ∀ e ∈ (ways (.x 0) (.x 1) (.x 2)).flatMap (wayEqs (.x 0) (.x 1) (.x 2)), TEqIs e := by
 intro e he
 obtain ⟨w, hw, he⟩ := List.mem_flatMap.1 he
 exact (ways_all w hw).eqs e he
end
end Go.Proofs.YtcjbpaiomcfgnaaGreatDoor
namespace Go.Proofs.YtcjbpaiomcfgnaaGreatDoor
open Go
section
variable {ν : Nm}
theorem beN_acc : ∀ (l : List UInt8) (n : Nat), l.foldl (fun n b => 256 * n + b.toNat) n = n * 256 ^ l.length + beN l
 | [], n => by simp [beN]
 | b :: l, n => by
  have h1 := beN_acc l (256 * n + b.toNat)
  have h2 := beN_acc l (256 * 0 + b.toNat)
  unfold beN at h2 ⊢
  simp only [List.foldl_cons, List.length_cons, Nat.pow_succ]
  rw [h1, h2]
  unfold beN
  rw [Nat.add_mul, Nat.mul_zero, Nat.zero_add, Nat.mul_comm 256 n, Nat.mul_assoc, Nat.mul_comm 256 (256 ^ l.length), Nat.add_assoc]
theorem beN_cons (b : UInt8) (l : List UInt8) : beN (b :: l) = b.toNat * 256 ^ l.length + beN l := by
 have := beN_acc l (256 * 0 + b.toNat)
 unfold beN at this ⊢
 rw [List.foldl_cons, this]
 simp
theorem beB_beN : ∀ (l : List UInt8) (q : Nat), beB l.length (q * 256 ^ l.length + beN l) = l
 | [], _ => rfl
 | b :: l, q => by
  have hlt := beN_lt l
  have hp : 0 < 256 ^ l.length := Nat.pow_pos (by decide)
  rw [beN_cons]
  simp only [List.length_cons, beB]
  have e : q * 256 ^ (l.length + 1) + (b.toNat * 256 ^ l.length + beN l) = (q * 256 + b.toNat) * 256 ^ l.length + beN l := by
   rw [Nat.pow_succ, Nat.add_mul, Nat.add_assoc, Nat.mul_comm (256 ^ l.length) 256, Nat.mul_assoc]
  rw [e, beB_beN l]
  congr 1
  rw [Nat.mul_comm, Nat.mul_add_div hp, Nat.div_eq_of_lt hlt, Nat.add_zero]
  have : (q * 256 + b.toNat) % 256 = b.toNat := by
   have := b.toNat_lt
   omega
  rw [← UInt8.toNat_inj, UInt8.toNat_ofNat', show (2 : Nat) ^ 8 = 256 from rfl, this]
theorem beN_head {l : List UInt8} {k : Nat} (hl : l.length = k + 1) : (0 < (l.headD 0).toNat) ↔ 256 ^ k ≤ beN l := by
 cases l with
 | nil => cases hl
 | cons b l =>
  have hl : l.length = k := by simpa using hl
  have hlt := beN_lt l
  rw [beN_cons, hl] at *
  show 0 < b.toNat ↔ _
  constructor
  ·intro h
   exact Nat.le_trans (Nat.le_mul_of_pos_left _ h) (Nat.le_add_right _ _)
  ·intro h
   rcases Nat.eq_zero_or_pos b.toNat with h0 | h0
   ·rw [h0, Nat.zero_mul, Nat.zero_add] at h
    omega
   ·exact h0
theorem canon {t : List UInt8} {k : Nat} (h1 : 1 ≤ k) (h8 : k ≤ 8) (ht : t.length = k) : numB (beN t) = UInt8.ofNat (128 + k) :: t ↔ (0 < (t.headD 0).toNat ∧ 128 ≤ beN t) := by
 have hlt : beN t < 256 ^ k := ht ▸ beN_lt t
 have hb : beB k (beN t) = t := by
  have := beB_beN t 0
  rw [Nat.zero_mul, Nat.zero_add, ht] at this
  exact this
 obtain ⟨j, rfl⟩ : ∃ j, k = j + 1 := ⟨k - 1, by omega⟩
 have hh := beN_head (l := t) (k := j) ht
 constructor
 ·intro h
  unfold numB at h
  split at h
  ·have := congrArg List.length h
   simp only [List.length_cons, List.length_nil] at this
   omega
  ·rename_i hn
   injection h with h2 h3
   have hc := cntB_le (beN t)
   have := ofNat_inj (by omega) (by omega) h2
   refine ⟨hh.2 ?_, by omega⟩
   rcases Nat.eq_zero_or_pos j with hj | hj
   ·subst hj; show 1 ≤ _; omega
   ·refine Nat.le_of_not_lt fun hc2 => ?_
    have e : cntB (beN t) ≤ j := by
     refine Nat.le_of_not_lt fun hc3 => ?_
     have hj1 : cntB (beN t) = j + 1 := by omega
     unfold cntB at hj1
     have : j = 1 ∨ j = 2 ∨ j = 3 ∨ j = 4 ∨ j = 5 ∨ j = 6 ∨ j = 7 := by omega
     rcases this with h | h | h | h | h | h | h <;> subst h <;> simp only [Nat.reducePow] at hc2 <;> (repeat' split at hj1) <;> omega
    omega
 ·rintro ⟨g1, g2⟩
  have g3 := hh.1 g1
  have hc : cntB (beN t) = j + 1 := cntB_eq h1 h8 (fun _ => hlt) (fun _ => g3)
  unfold numB
  rw [if_neg (by omega), hc, hb]
theorem den_RB {s r : Tm} {d : Dat} : denT ν (RB s r) = some d ↔ ∃ x y, denT ν s = some x ∧ denT ν r = some y ∧ d = .s (rbZ (strOf x) (numOf y)) := by
 unfold RB
 rw [den_U (by decide)]
 constructor
 ·rintro ⟨ds, h1, h2⟩
  obtain ⟨x, y, h3, h4, rfl⟩ := denTs2.1 h1
  simp only [progU, flatU, Option.some.injEq] at h2
  exact ⟨x, y, h3, h4, h2.symm⟩
 ·rintro ⟨x, y, h1, h2, rfl⟩
  exact ⟨_, denTs2.2 ⟨x, y, h1, h2, rfl⟩, rfl⟩
def Src (s r m b : Tm) (z : List (Tm × Bool)) : Prop := ∀ ν : Nm, AllSo ν z → ∃ S R M, denT ν s = some S ∧ denT ν r = some R ∧ denT ν m = some (.n M) ∧ nev ν m = M ∧ 0 ≤ M ∧ 0 ≤ numOf R ∧ lenZ (evD ν b) ≤ 1000000000000000 ∧
 ((∃ B, evD ν b = .s B ∧ B = (strOf S).drop (numOf R).toNat) ∨ (strOf S = [] ∧ ∀ B, evD ν b ≠ .s B))
theorem src_RB : Src (.x 0) (.x 1) (.x 2) (RB (.x 0) (.x 1)) [fine (.x 1), sz4 (.x 0), geK .u64 (.x 2)] := fun ν hs => by
 obtain ⟨h1, h2, h3, _⟩ := hs
 obtain ⟨S, R, M, hS, hR, hm, hM, hok, hl, l0, l1, hmm⟩ := c0 h1 h2 h3
 have h := okZ_true.1 hok
 have e : evD ν (RB (.x 0) (.x 1)) = .s ((strOf S).drop (numOf R).toNat) := by
  rw [ev_den (den_RB.2 ⟨S, R, hS, hR, rfl⟩)]
  unfold rbZ
  rw [if_neg (by omega)]
 refine ⟨S, R, M, hS, hR, hm, hmm, hM, h, ?_, .inl ⟨_, e, rfl⟩⟩
 rw [e]
 show ((List.drop _ _).length : Int) ≤ _
 have := lenSt S
 rw [List.length_drop]
 omega
theorem src_0 : Src (.x 0) (.c 0) (.x 2) (.x 0) [sz4 (.x 0), geK .u64 (.x 2)] := fun ν hs => by
 obtain ⟨h2, h3, _⟩ := hs
 obtain ⟨x, y, k1, k2, k3⟩ := so_leq h2
 obtain ⟨S, n, hS, hn, rfl⟩ := len_row k1
 cases den_c k2
 have k3 := of_decide_eq_true k3
 obtain ⟨M, z, g1, g2, g3⟩ := so_geq h3
 cases den_c g2
 have hl : lenZ S = n := by
  cases S <;> simp only [lenDat, Option.some.injEq] at hn <;> first | (cases hn; done) | (subst hn; rfl)
 refine ⟨S, .n 0, M, hS, rfl, g1, ?_, of_decide_eq_true g3, Int.le_refl 0, ?_, ?_⟩
 ·unfold nev; rw [ev_den g1]; rfl
 ·rw [ev_den hS, hl]; exact k3
 ·rw [ev_den hS]
  cases S with
  | s l => exact .inl ⟨l, rfl, rfl⟩
  | n _ => exact .inr ⟨rfl, fun _ h => by cases h⟩
  | l _ => exact .inr ⟨rfl, fun _ h => by cases h⟩
  | v _ => exact .inr ⟨rfl, fun _ h => by cases h⟩
  | r _ _ _ => exact .inr ⟨rfl, fun _ h => by cases h⟩
def TakeIs (s r m : Tm) (w : Way) : Prop := ∀ ν : Nm, AllSo ν w.hs → ∃ S R M, denT ν s = some S ∧ denT ν r = some R ∧ denT ν m = some (.n M) ∧ IsN ν w.v ∧ IsN ν w.ok ∧
 nev ν w.v = valZ (strOf S) (numOf R) M ∧ evD ν w.a = .s (rbZ (strOf S) (stepZ (strOf S) (numOf R) M)) ∧ nev ν w.ok = i01 (okZ (stepZ (strOf S) (numOf R) M))
theorem TakeIs.eqs {s r m : Tm} {w : Way} (h : TakeIs s r m w) : ∀ e ∈ takeEqs s r m w, TEqIs e := by
 intro e he
 simp only [takeEqs, List.mem_cons, List.mem_nil_iff, or_false] at he
 rcases he with rfl | rfl | rfl
 ·intro ν hs d hd
  obtain ⟨S, R, M, h1, h2, h3, k1, _, h4, _, _⟩ := h ν hs
  rw [k1.d hd, h4]
  exact den_VAL.2 ⟨S, R, .n M, h1, h2, h3, rfl⟩
 ·intro ν hs d hd
  obtain ⟨S, R, M, h1, h2, h3, _, _, _, h4, _⟩ := h ν hs
  rw [← ev_den hd, h4]
  exact den_RB.2 ⟨S, _, h1, den_STEP.2 ⟨S, R, .n M, h1, h2, h3, rfl⟩, rfl⟩
 ·intro ν hs d hd
  obtain ⟨S, R, M, h1, h2, h3, _, k1, _, _, h4⟩ := h ν hs
  rw [k1.d hd, h4]
  exact den_OKR.2 ⟨_, den_STEP.2 ⟨S, R, .n M, h1, h2, h3, rfl⟩, rfl⟩
theorem ev_nil0 : evD ν nil0 = .s [] := by
 unfold nil0
 simp only [evD, show limF 3 = false from rfl, evDs]
 rfl
theorem took_no {l : List UInt8} {ρ M : Int} {c : Nat} {q : Option Nat} (h0 : 0 ≤ ρ) (h : rd1 (l.drop ρ.toNat) = (c, q)) (hm : okN M q = false) : valZ l ρ M = 0 ∧ rbZ l (stepZ l ρ M) = [] ∧ i01 (okZ (stepZ l ρ M)) = 0 := by
 obtain ⟨e1, e2⟩ := step_no h0 h hm
 refine ⟨e2, ?_, ?_⟩
 ·rw [e1]; unfold rbZ; rw [if_pos (by omega)]
 ·rw [e1]; exact no_i01 (by omega)
theorem took_ok {l : List UInt8} {ρ M : Int} {c n : Nat} (h0 : 0 ≤ ρ) (h : rd1 (l.drop ρ.toNat) = (c, some n)) (hm : (n : Int) ≤ M) : valZ l ρ M = n ∧ rbZ l (stepZ l ρ M) = (l.drop ρ.toNat).drop c ∧ i01 (okZ (stepZ l ρ M)) = 1 := by
 obtain ⟨e1, e2⟩ := step_ok h0 h hm
 refine ⟨e2, ?_, ?_⟩
 ·rw [e1]; unfold rbZ; rw [if_neg (by omega), List.drop_drop]; congr 1; omega
 ·rw [e1]; exact ok_i01 (by omega)
theorem take_fail0 {s r m b : Tm} {w : Way} (ev : w.v = .c 0) (ea : w.a = nil0) (eo : w.ok = .c 0) {z : List (Tm × Bool)} (hz : Src s r m b z) (hs : ∀ ν : Nm, AllSo ν w.hs → AllSo ν z)
  (h : ∀ (ν : Nm) (B : List UInt8) (M : Int), AllSo ν w.hs → nev ν m = M → 0 ≤ M → (evD ν b = .s B ∨ B = []) → (B.length : Int) ≤ 1000000000000000 → okN M (rd1 B).2 = false) : TakeIs s r m w := fun ν hw => by
 obtain ⟨S, R, M, h1, h2, h3, h4, h5, h6, h7, h8⟩ := hz ν (hs ν hw)
 have hf : okN M (rd1 ((strOf S).drop (numOf R).toNat)).2 = false := by
  rcases h8 with ⟨B, k1, k2⟩ | ⟨k1, _⟩
  ·rw [← k2]
   rw [k1] at h7
   exact h ν B M hw h4 h5 (.inl k1) h7
  ·rw [k1, List.drop_nil]
   exact h ν [] M hw h4 h5 (.inr rfl) (by decide)
 obtain ⟨e1, e2, e3⟩ := took_no (M := M) h6 (q := (rd1 ((strOf S).drop (numOf R).toNat)).2) (c := (rd1 ((strOf S).drop (numOf R).toNat)).1) rfl hf
 refine ⟨S, R, M, h1, h2, h3, by rw [ev]; exact isN_c 0, by rw [eo]; exact isN_c 0, ?_, ?_, ?_⟩
 ·rw [ev, nev_c, e1]
 ·rw [ea, ev_nil0, e2]
 ·rw [eo, nev_c, e3]
theorem first_of {b : Tm} {c : Bool} (h : IsSo ν (long128 b c).1 c) : ∃ B q t, evD ν b = .s B ∧ B = q :: t ∧ nev ν (BYTE b (.c 0)) = q.toNat ∧ decide (128 ≤ q.toNat) = c := by
 obtain ⟨x, y, h1, h2, h3⟩ := so_geq h
 cases den_c h2
 obtain ⟨l, i, q, k1, k2, k3, k4, k5⟩ := den_f9.1 h1
 cases den_c k2
 injection k5 with k5
 subst k5
 cases l with
 | nil => cases k4
 | cons a t =>
  have k4 : some a = some q := k4
  injection k4 with k4
  subst k4
  refine ⟨_, a, t, ev_den k1, rfl, ?_, ?_⟩
  ·unfold nev; rw [ev_den h1]; rfl
  ·rw [← h3]
   have : ((128 : Int) ≤ (a.toNat : Int)) ↔ 128 ≤ a.toNat := by omega
   exact decide_eq_decide.2 this.symm
theorem nev_K2 {b : Tm} {q : UInt8} (h : nev ν (BYTE b (.c 0)) = q.toNat) : nev ν (K2 b) = q.toNat - 128 := by
 show nev ν (.bin .sub .i64 (.conv .i64 (BYTE b (.c 0))) (.c 128)) = _
 have := q.toNat_lt
 rw [nev_sub, nev_conv, h, nev_c, wr64 (x := (q.toNat : Int)) (by omega) (by omega), wr64 (by omega) (by omega)]
theorem nev_1K {b : Tm} {q : UInt8} (h : nev ν (BYTE b (.c 0)) = q.toNat) : nev ν (addI (.c 1) (K2 b)) = 1 + (q.toNat - 128 : Int) := by
 show nev ν (.bin .add .i64 _ _) = _
 have := q.toNat_lt
 rw [nev_add, nev_c, nev_K2 h, wr64 (by omega) (by omega)]
theorem ev_eqs {a b : Tm} {x y : List UInt8} {c : Bool} (ha : evD ν a = .s x) (hb : evD ν b = .s y) : EvIs ν (EQS a b, c) ↔ decide (x = y) = c := by
 unfold EvIs EQS nev
 simp only [evD, show limF 4 = false from rfl, evDs]
 show (decide (nD ((eqF (evD ν a) (evD ν b)).getD (.n 0)) ≠ 0) = c) ↔ _
 rw [ha, hb]
 simp only [eqF, Option.getD_some, b01, nD]
 by_cases h : x = y <;> simp [h]
theorem evD_NUM {n : Tm} {x : Nat} (h : IsN ν n) (h2 : nev ν n = x) (h3 : x < 18446744073709551616) : evD ν (NUM n) = .s (numB x) := by
 unfold NUM
 refine evD_U (by decide) ?_
 simp only [evDs]
 rw [h, h2]
 simp only [progU, flatU, NB]
 have e : w64 (x : Int) = x := by
  unfold w64
  rw [wu64 (by omega) (by omega)]
  rfl
 rw [e]
theorem isN_nt (b : Tm) : ∀ j, IsN ν (nt b j)
 | 0 => isN_c 0
 | 1 => isN_bin ..
 | _ + 2 => isN_bin ..
theorem nev_nt {b : Tm} {q : UInt8} {t : List UInt8} (hb : evD ν b = .s (q :: t)) : ∀ j, j ≤ 8 → j ≤ t.length → nev ν (nt b j) = beN (t.take j)
 | 0, _, _ => by rw [show nt b 0 = .c 0 from rfl, nev_c]; rfl
 | 1, _, h => by
  obtain ⟨c, hc⟩ : ∃ c, t[0]? = some c := ⟨_, List.getElem?_eq_getElem (by omega)⟩
  have h1 : nev ν (BYTE b (.c 1)) = c.toNat := nev_byte (ν := ν) (i := .c 1) hb (isN_c 1) (by rw [nev_c]; decide) (b := c) (by rw [nev_c]; exact hc)
  have h2 := c.toNat_lt
  show nev ν (.bin .add .u64 (.c 0) (u64 (BYTE b (.c 1)))) = _
  rw [nev_add, nev_c, u64_byte h1, beN_take hc, wu64 (by omega) (by omega)]
  show _ = ((256 * beN [] + c.toNat : Nat) : Int)
  have : beN [] = 0 := rfl
  omega
 | j + 2, h8, h => by
  have ih := nev_nt hb (j + 1) (by omega) (by omega)
  obtain ⟨c, hc⟩ : ∃ c, t[j + 1]? = some c := ⟨_, List.getElem?_eq_getElem (by omega)⟩
  have h1 : nev ν (BYTE b (.c (.ofNat (j + 2)))) = c.toNat := nev_byte (ν := ν) (i := .c (.ofNat (j + 2))) hb (isN_c _) (by rw [nev_c]; exact Int.natCast_nonneg _) (b := c) (by rw [nev_c]; exact hc)
  have h2 := c.toNat_lt
  have hlt := beN_lt8 (t := t) (j := j + 1) (by omega)
  have hpw : 256 ^ (j + 1) ≤ 256 ^ 7 := Nat.pow_le_pow_right (by decide) (by omega)
  have hpw : 256 ^ (j + 1) ≤ 72057594037927936 := hpw
  show nev ν (.bin .add .u64 (.bin .mul .u64 (.c 256) (nt b (j + 1))) (u64 (BYTE b (.c (.ofNat (j + 2)))))) = _
  rw [nev_add, nev_mul, nev_c, ih, u64_byte h1, beN_take hc, wu64 (x := 256 * (beN (t.take (j + 1)) : Int)) (by omega) (by omega), wu64 (by omega) (by omega)]
  omega
variable {s r m b : Tm} {z : List (Tm × Bool)}
theorem tk_none (hz : Src s r m b z) : TakeIs s r m ⟨isNone b true :: z, .c 0, nil0, .c 0⟩ :=
 take_fail0 rfl rfl rfl hz (fun ν h => h.2) fun ν B M hs hmm hM hB hl => by
  have h := of_decide_eq_true (ev_eql.1 (so_ev hs.1))
  have e : B = [] := by
   rcases hB with hB | hB
   ·rw [nev_c, show nev ν (LEN b) = lenZ (evD ν b) from nev_len b, hB] at h
    exact List.eq_nil_of_length_eq_zero (by simpa [lenZ] using h)
   ·exact hB
  rw [e]
  rfl
theorem take_of {w : Way} {c : Bool} (hz : Src s r m b z) (hs : ∀ ν : Nm, AllSo ν w.hs → AllSo ν z ∧ IsSo ν (long128 b c).1 c) (iv : ∀ ν : Nm, IsN ν w.v) (io : ∀ ν : Nm, IsN ν w.ok)
  (h : ∀ (ν : Nm) (q : UInt8) (t : List UInt8) (M : Int), AllSo ν w.hs → nev ν m = M → 0 ≤ M → evD ν b = .s (q :: t) → nev ν (LEN b) = t.length + 1 → (t.length : Int) < 1000000000000000 → nev ν (BYTE b (.c 0)) = q.toNat → decide (128 ≤ q.toNat) = c →
   (nev ν w.v = 0 ∧ evD ν w.a = .s [] ∧ nev ν w.ok = 0 ∧ okN M (rd1 (q :: t)).2 = false) ∨ ∃ k n, rd1 (q :: t) = (k, some n) ∧ (n : Int) ≤ M ∧ nev ν w.v = n ∧ evD ν w.a = .s ((q :: t).drop k) ∧ nev ν w.ok = 1) : TakeIs s r m w := fun ν hw => by
 obtain ⟨k1, k2⟩ := hs ν hw
 obtain ⟨S, R, M, h1, h2, h3, h4, h5, h6, h7, h8⟩ := hz ν k1
 obtain ⟨B, q, t, g1, g2, g3, g4⟩ := first_of k2
 have e : B = (strOf S).drop (numOf R).toNat := by
  rcases h8 with ⟨B', p1, p2⟩ | ⟨_, p2⟩
  ·rw [g1] at p1
   injection p1 with p1
   rw [p1, p2]
  ·exact absurd g1 (p2 B)
 have hlen : nev ν (LEN b) = t.length + 1 := by
  rw [show nev ν (LEN b) = lenZ (evD ν b) from nev_len b, g1, g2]
  simp [lenZ]
 have hsm : (t.length : Int) < 1000000000000000 := by
  rw [g1, g2] at h7
  simp only [lenZ, List.length_cons] at h7
  omega
 rw [g2] at e g1
 refine ⟨S, R, M, h1, h2, h3, iv ν, io ν, ?_⟩
 rcases h ν q t M hw h4 h5 g1 hlen hsm g3 g4 with ⟨a1, a2, a3, a4⟩ | ⟨k, n, a1, a2, a3, a4, a5⟩
 ·rw [e] at a4
  obtain ⟨e1, e2, e3⟩ := took_no (M := M) h6 (q := (rd1 ((strOf S).drop (numOf R).toNat)).2) (c := (rd1 ((strOf S).drop (numOf R).toNat)).1) rfl a4
  rw [a1, a2, a3, e1, e2, e3]
  exact ⟨rfl, rfl, rfl⟩
 ·rw [e] at a1 a4
  obtain ⟨e1, e2, e3⟩ := took_ok (M := M) h6 a1 a2
  rw [a3, a4, a5, e1, e2, e3]
  exact ⟨rfl, rfl, rfl⟩
theorem part0 {q : UInt8} {t : List UInt8} {j : Tm} {k : Nat} (hb : evD ν b = .s (q :: t)) (hj : IsN ν j) (ej : nev ν j = k) (hk : k ≤ t.length + 1) : evD ν (PART b (.c 0) j) = .s ((q :: t).take k) := by
 rw [evD_PART hb (isN_c 0) hj (nev_c 0) ej (Int.le_refl 0) (by omega) (by simp only [List.length_cons]; omega)]
 simp
theorem partL {q : UInt8} {t : List UInt8} {j : Tm} {k : Nat} (hb : evD ν b = .s (q :: t)) (hl : nev ν (LEN b) = t.length + 1) (hj : IsN ν j) (ej : nev ν j = k) (hk : k ≤ t.length + 1) : evD ν (PART b j (LEN b)) = .s ((q :: t).drop k) := by
 rw [evD_PART (j := LEN b) hb hj (isN_len b) ej hl (by omega) (by omega) (by simp only [List.length_cons]; omega)]
 have e1 : ((k : Int)).toNat = k := by omega
 have e2 : ((t.length : Int) + 1).toNat = (q :: t).length := by simp only [List.length_cons]; omega
 rw [e1, e2, ← List.length_drop, List.take_length]
theorem tk3_is {n j : Tm} {c : Bool} {hs : List (Tm × Bool)} (hz : Src s r m b z) (iv : ∀ ν : Nm, IsN ν n) (ij : ∀ ν : Nm, IsN ν j) (hh : ∀ ν : Nm, AllSo ν hs → AllSo ν z ∧ IsSo ν (long128 b c).1 c)
  (h : ∀ (ν : Nm) (q : UInt8) (t : List UInt8), AllSo ν hs → evD ν b = .s (q :: t) → nev ν (LEN b) = t.length + 1 → (t.length : Int) < 1000000000000000 → nev ν (BYTE b (.c 0)) = q.toNat → decide (128 ≤ q.toNat) = c →
   ∃ k x, nev ν j = (k : Nat) ∧ nev ν n = (x : Nat) ∧ x < 18446744073709551616 ∧ k ≤ t.length + 1 ∧ rd1 (q :: t) = (k, if numB x = (q :: t).take k then some x else none)) : ∀ w ∈ tk3 b m n j hs, TakeIs s r m w := by
 intro w hw
 simp only [tk3, List.mem_cons, List.mem_nil_iff, or_false] at hw
 rcases hw with rfl | rfl | rfl
 ·refine take_of (c := c) hz (fun ν k => hh ν k.2) (fun _ => isN_c 0) (fun _ => isN_c 0) fun ν q t M hs hmm hM hb hl hsm hq hc => .inl ?_
  obtain ⟨k, x, e1, e2, e3, e4, e5⟩ := h ν q t hs.2 hb hl hsm hq hc
  have g := of_decide_eq_false ((ev_eqs (evD_NUM (iv ν) e2 e3) (part0 hb (ij ν) e1 e4)).1 (so_ev hs.1))
  rw [if_neg g] at e5
  exact ⟨nev_c 0, ev_nil0, nev_c 0, by rw [e5]; rfl⟩
 ·refine take_of (c := c) hz (fun ν k => hh ν k.2.2) (fun _ => isN_c 0) (fun _ => isN_c 0) fun ν q t M hs hmm hM hb hl hsm hq hc => .inl ?_
  obtain ⟨k, x, e1, e2, e3, e4, e5⟩ := h ν q t hs.2.2 hb hl hsm hq hc
  have g := of_decide_eq_true ((ev_eqs (evD_NUM (iv ν) e2 e3) (part0 hb (ij ν) e1 e4)).1 (so_ev hs.1))
  have g2 := of_decide_eq_true (ev_gtr.1 (so_ev hs.2.1))
  rw [e2, hmm] at g2
  rw [if_pos g] at e5
  exact ⟨nev_c 0, ev_nil0, nev_c 0, by rw [e5]; exact decide_eq_false (by omega)⟩
 ·refine take_of (c := c) hz (fun ν k => hh ν k.2.2) iv (fun _ => isN_c 1) fun ν q t M hs hmm hM hb hl hsm hq hc => .inr ?_
  obtain ⟨k, x, e1, e2, e3, e4, e5⟩ := h ν q t hs.2.2 hb hl hsm hq hc
  have g := of_decide_eq_true ((ev_eqs (evD_NUM (iv ν) e2 e3) (part0 hb (ij ν) e1 e4)).1 (so_ev hs.1))
  have g2 := of_decide_eq_false (ev_gtr.1 (so_ev hs.2.1))
  rw [e2, hmm] at g2
  rw [if_pos g] at e5
  exact ⟨k, x, e5, by omega, e2, partL hb hl (ij ν) e1 e4, nev_c 1⟩
theorem ofNat_toNat (q : UInt8) : UInt8.ofNat q.toNat = q := by
 rw [← UInt8.toNat_inj, UInt8.toNat_ofNat', Nat.mod_eq_of_lt (by have := q.toNat_lt; omega)]
theorem tk_small (hz : Src s r m b z) : ∀ w ∈ tk3 b m (u64 (BYTE b (.c 0))) (.c 1) (long128 b false :: th1 b z), TakeIs s r m w :=
 tk3_is hz (fun _ => isN_conv ..) (fun _ => isN_c 1) (fun ν h => ⟨h.2.2, h.1⟩) fun ν q t hs hb hl hsm hq hc => by
  have hc : q.toNat < 128 := by have := of_decide_eq_false hc; omega
  refine ⟨1, q.toNat, nev_c 1, u64_byte hq, by omega, by omega, ?_⟩
  rw [rd1_small hc]
  have e : numB q.toNat = (q :: t).take 1 := by
   unfold numB
   rw [if_pos hc, ofNat_toNat]
   rfl
  rw [if_pos e]
theorem tk_8 (hz : Src s r m b z) : TakeIs s r m ⟨(.bin .gtr .i64 (K2 b) (.c 8), true) :: th2 b z, .c 0, nil0, .c 0⟩ :=
 take_of (c := true) hz (fun ν h => ⟨h.2.2.2, h.2.1⟩) (fun _ => isN_c 0) (fun _ => isN_c 0) fun ν q t M hs hmm hM hb hl hsm hq hc => .inl ⟨nev_c 0, ev_nil0, nev_c 0, by
  have g := of_decide_eq_true (ev_gtr.1 (so_ev hs.1))
  rw [nev_K2 hq, nev_c] at g
  rw [rd1_bad (by omega) (by omega)]
  rfl⟩
theorem tk_len (hz : Src s r m b z) : TakeIs s r m ⟨(.bin .lss .i64 (LEN b) (addI (.c 1) (K2 b)), true) :: (.bin .gtr .i64 (K2 b) (.c 8), false) :: th2 b z, .c 0, nil0, .c 0⟩ :=
 take_of (c := true) hz (fun ν h => ⟨h.2.2.2.2, h.2.2.1⟩) (fun _ => isN_c 0) (fun _ => isN_c 0) fun ν q t M hs hmm hM hb hl hsm hq hc => .inl ⟨nev_c 0, ev_nil0, nev_c 0, by
  have g := of_decide_eq_true (ev_lss.1 (so_ev hs.1))
  rw [hl, nev_1K hq] at g
  have hc := of_decide_eq_true hc
  rw [rd1_bad (by omega) (by omega)]
  rfl⟩
theorem th3_of {k : Nat} (h8 : k ≤ 8) (h : AllSo ν (th3 b z k)) : AllSo ν (th2 b z) ∧ ∀ {q : UInt8}, nev ν (BYTE b (.c 0)) = q.toNat → nev ν (LEN b) ≥ 1 + (q.toNat - 128 : Int) ∧ (128 ≤ q.toNat → q.toNat = 128 + k) := by
 unfold th3 at h
 rw [allSo_append, allSo_append] at h
 obtain ⟨⟨g1, g2⟩, g3, g4, g5⟩ := h
 refine ⟨g5, fun {q} hq => ?_⟩
 have e3 := of_decide_eq_false (ev_lss.1 (so_ev g3))
 have e4 := of_decide_eq_false (ev_gtr.1 (so_ev g4))
 rw [nev_1K hq] at e3
 rw [nev_K2 hq, nev_c] at e4
 refine ⟨by omega, fun hq128 => ?_⟩
 have a1 : (q.toNat : Int) - 128 ≤ k := by
  by_cases hk : k < 8
  ·rw [if_pos hk] at g1
   have := of_decide_eq_false (ev_leq.1 (so_ev g1.1))
   rw [nev_c, nev_K2 hq] at this
   have e : Int.ofNat (k + 1) = ((k + 1 : Nat) : Int) := rfl
   omega
  ·omega
 have a2 : (k : Int) ≤ (q.toNat : Int) - 128 := by
  by_cases hk : 1 ≤ k
  ·rw [if_pos hk] at g2
   have := of_decide_eq_true (ev_leq.1 (so_ev g2.1))
   rw [nev_c, nev_K2 hq] at this
   have e : Int.ofNat k = (k : Int) := rfl
   omega
  ·omega
 omega
theorem tk8_is (hz : Src s r m b z) {k : Nat} (h1 : 1 ≤ k) (h8 : k ≤ 8) : ∀ w ∈ tk3 b m (nt b k) (addI (.c 1) (K2 b)) (th3 b z k), TakeIs s r m w :=
 tk3_is (c := true) hz (fun _ => isN_nt b k) (fun _ => isN_bin ..) (fun ν h => ⟨(th3_of h8 h).1.2.2, (th3_of h8 h).1.1⟩) fun ν q t hs hb hl hsm hq hc => by
  have hc := of_decide_eq_true hc
  obtain ⟨g1, g2⟩ := (th3_of h8 hs).2 hq
  have g2 := g2 hc
  have hkt : k ≤ t.length := by omega
  have hlt := beN_lt8 (t := t) (j := k) h8
  have hpw : 256 ^ k ≤ 256 ^ 8 := Nat.pow_le_pow_right (by decide) h8
  have hpw : 256 ^ k ≤ 18446744073709551616 := hpw
  refine ⟨1 + k, beN (t.take k), by rw [nev_1K hq]; omega, nev_nt hb k h8 hkt, by omega, by omega, ?_⟩
  rw [rd1_big g2 h1 h8 hkt]
  have hq' : q = UInt8.ofNat (128 + k) := by rw [← g2, ofNat_toNat]
  have hcan := canon (t := t.take k) h1 h8 (by rw [List.length_take]; omega)
  have hh : (t.take k).headD 0 = t.headD 0 := by
   cases t with
   | nil => rw [List.take_nil]
   | cons a t => cases k with
    | zero => omega
    | succ k => rfl
  rw [hh] at hcan
  have e : (q :: t).take (1 + k) = UInt8.ofNat (128 + k) :: t.take k := by rw [Nat.add_comm, List.take_succ_cons, hq']
  rw [e]
  by_cases hcc : 0 < (t.headD 0).toNat ∧ 128 ≤ beN (t.take k)
  ·rw [if_pos hcc, if_pos (hcan.2 hcc)]
  ·rw [if_neg hcc, if_neg (fun h => hcc (hcan.1 h))]
theorem tk0_is (hz : Src s r m b z) : ∀ w ∈ tk8 b m z 0, TakeIs s r m w := by
 intro w hw
 simp only [tk8, List.mem_cons, List.mem_nil_iff, or_false] at hw
 have key : ∀ {ν : Nm} {q : UInt8} {t : List UInt8}, AllSo ν (th3 b z 0) → nev ν (BYTE b (.c 0)) = q.toNat → decide (128 ≤ q.toNat) = true → q.toNat = 128 := fun {ν q t} hs hq hc => ((th3_of (Nat.zero_le _) hs).2 hq).2 (of_decide_eq_true hc)
 have n0 : ∀ {ν : Nm}, evD ν (NUM (.c 0)) = .s (numB 0) := evD_NUM (isN_c 0) (nev_c 0) (by decide)
 rcases hw with rfl | rfl
 ·refine take_of (c := true) hz (fun ν h => ⟨(th3_of (Nat.zero_le _) h.2).1.2.2, (th3_of (Nat.zero_le _) h.2).1.1⟩) (fun _ => isN_c 0) (fun _ => isN_c 0) fun ν q t M hs hmm hM hb hl hsm hq hc => .inl ⟨nev_c 0, ev_nil0, nev_c 0, ?_⟩
  have := key (t := t) hs.2 hq hc
  rw [rd1_bad (by omega) (by omega)]
  rfl
 ·refine take_of (c := true) hz (fun ν h => ⟨(th3_of (Nat.zero_le _) h.2).1.2.2, (th3_of (Nat.zero_le _) h.2).1.1⟩) (fun _ => isN_c 0) (fun _ => isN_c 1) fun ν q t M hs hmm hM hb hl hsm hq hc => ?_
  have hk := key (t := t) hs.2 hq hc
  exfalso
  have g := of_decide_eq_true ((ev_eqs n0 (part0 (j := addI (.c 1) (K2 b)) (k := 1) hb (isN_bin ..) (by rw [nev_1K hq]; omega) (by omega))).1 (so_ev hs.1))
  have e : q = 0 := by
   have g : [(0 : UInt8)] = [q] := g
   injection g with g
   exact g.symm
  rw [e] at hk
  cases hk
theorem takes_all (hz : Src s r m b z) : ∀ w ∈ takes b m z, TakeIs s r m w := by
 intro w hw
 unfold takes at hw
 simp only [List.mem_append, List.mem_cons, List.mem_nil_iff, or_false] at hw
 rcases hw with ((hw | hw) | hw | hw) | (((((((hw | hw) | hw) | hw) | hw) | hw) | hw) | hw) | hw
 ·subst hw; exact tk_none hz
 ·exact tk_small hz w hw
 ·subst hw; exact tk_8 hz
 ·subst hw; exact tk_len hz
 ·exact tk0_is hz w hw
 all_goals exact tk8_is hz (by decide) (by decide) w hw
theorem takesR_all : ∀ w ∈ takesR (.x 0) (.x 1) (.x 2), TakeIs (.x 0) (.x 1) (.x 2) w := by
 intro w hw
 unfold takesR at hw
 rcases List.mem_cons.1 hw with rfl | hw
 ·intro ν hs
  obtain ⟨h1, h2, h3, _⟩ := hs
  obtain ⟨S, R, M, hS, hR, hm, hM, hok, hl, l0, l1, hmm⟩ := c0 h1 h2 h3
  have h := okZ_false.1 hok
  obtain ⟨e1, e2⟩ := step_neg (l := strOf S) (m := M) h
  refine ⟨S, R, M, hS, hR, hm, isN_c 0, isN_c 0, ?_, ?_, ?_⟩
  ·rw [nev_c, e2]
  ·rw [ev_nil0, e1]; unfold rbZ; rw [if_pos h]
  ·rw [nev_c, e1]; exact (no_i01 h).symm
 ·exact takes_all src_RB w hw
theorem takeEqs_is : ∀ e ∈ (takesR (.x 0) (.x 1) (.x 2)).flatMap (takeEqs (.x 0) (.x 1) (.x 2)), TEqIs e := by
 intro e he
 obtain ⟨w, hw, he⟩ := List.mem_flatMap.1 he
 exact (takesR_all w hw).eqs e he
theorem takeEqs0_is : ∀ e ∈ (takes (.x 0) (.x 2) [sz4 (.x 0), geK .u64 (.x 2)]).flatMap (takeEqs (.x 0) (.c 0) (.x 2)), TEqIs e := by
 intro e he
 obtain ⟨w, hw, he⟩ := List.mem_flatMap.1 he
 exact (takes_all src_0 w hw).eqs e he
end
end Go.Proofs.YtcjbpaiomcfgnaaGreatDoor
namespace Go.Proofs.YtcjbpaiomcfgnaaGreatDoor
open Go
section
variable {ν : Nm}
theorem beB_snoc : ∀ (k m : Nat), beB (k + 1) m = beB k (m / 256) ++ [UInt8.ofNat (m % 256)]
 | 0, m => by
  show [UInt8.ofNat (m / 256 ^ 0)] = [] ++ [UInt8.ofNat (m % 256)]
  simp only [Nat.pow_zero, Nat.div_one, List.nil_append, List.cons.injEq, and_true]
  rw [← UInt8.toNat_inj, UInt8.toNat_ofNat', UInt8.toNat_ofNat']
  omega
 | k + 1, m => by
  have ih := beB_snoc k m
  show UInt8.ofNat (m / 256 ^ (k + 1)) :: beB (k + 1) m = (UInt8.ofNat (m / 256 / 256 ^ k) :: beB k (m / 256)) ++ [UInt8.ofNat (m % 256)]
  rw [ih, List.cons_append, Nat.div_div_eq_div_mul, Nat.pow_succ, Nat.mul_comm]
theorem nev_quoN {n : Tm} {N : Nat} (hn : nev ν n = N) (hN : N < 18446744073709551616) : ∀ j, nev ν (quo n j) = ((N / 256 ^ j : Nat) : Int)
 | 0 => by rw [show quo n 0 = n from rfl, hn, Nat.pow_zero, Nat.div_one]
 | j + 1 => by
  show nev ν (.bin .quo .u64 (quo n j) (.c 256)) = _
  have hle := Nat.div_le_self (N / 256 ^ j) 256
  have hle2 := Nat.div_le_self N (256 ^ j)
  have e : ((N / 256 ^ j : Nat) : Int).tdiv 256 = ((N / 256 ^ j / 256 : Nat) : Int) := rfl
  have hw : IntKind.u64.wrap ((N / 256 ^ j / 256 : Nat) : Int) = ((N / 256 ^ j / 256 : Nat) : Int) := by
   generalize N / 256 ^ j = q at hle hle2 ⊢
   exact wu64 (by omega) (by omega)
  rw [nev_quo (by rw [nev_c]; decide), nev_quoN hn hN j, nev_c, e, hw, Nat.div_div_eq_div_mul, Nat.pow_succ]
theorem evD_byte1 {t : Tm} {x : Nat} (h : nev ν t = (x : Nat)) (hx : x < 256) (hn : IsN ν t) : evD ν (BYTES [t]) = .s [UInt8.ofNat x] := by
 show evD ν (.f 3 [t]) = _
 simp only [evD, show limF 3 = false from rfl, evDs]
 rw [hn, h]
 show ((bytesD [Dat.n (x : Int)]).map Dat.s).getD (.n 0) = _
 have e : (decide ((0 : Int) ≤ (x : Int)) && decide ((x : Int) < 256)) = true := by
  rw [Bool.and_eq_true]
  exact ⟨decide_eq_true (by omega), decide_eq_true (by omega)⟩
 simp only [bytesD, e, Int.toNat_natCast, Option.map_some, Option.getD_some]
theorem nev_rem8 {n : Tm} {N : Nat} (hn : nev ν n = N) (hN : N < 18446744073709551616) (j : Nat) : nev ν (.conv .u8 (.bin .rem .u64 (quo n j) (.c 256))) = ((N / 256 ^ j % 256 : Nat) : Int) := by
 have hlt := Nat.mod_lt (N / 256 ^ j) (y := 256) (by decide)
 have e : ((N / 256 ^ j : Nat) : Int).tmod 256 = ((N / 256 ^ j % 256 : Nat) : Int) := rfl
 rw [nev_conv, nev_rem (by rw [nev_c]; decide), nev_quoN hn hN j, nev_c, e, wu8 (by omega) (by omega)]
theorem evD_dig {n : Tm} {N : Nat} (hn : nev ν n = N) (hN : N < 18446744073709551616) : ∀ (k j : Nat), 1 ≤ k → evD ν (dig n k j) = .s (beB k (N / 256 ^ j))
 | 0, _, h => by omega
 | 1, j, _ => by
  have h := nev_rem8 hn hN j
  show evD ν (BYTES [_]) = _
  rw [evD_byte1 h (Nat.mod_lt _ (by decide)) (isN_conv ..), beB_snoc]
  rfl
 | k + 2, j, _ => by
  have h := nev_rem8 hn hN j
  have ih := evD_dig hn hN (k + 1) (j + 1) (by omega)
  have e := evD_cat ih (evD_byte1 h (Nat.mod_lt _ (by decide)) (isN_conv ..))
  show evD ν (.f 2 [dig n (k + 1) (j + 1), BYTES [_]]) = _
  rw [e, beB_snoc (k + 1), Nat.div_div_eq_div_mul, ← Nat.pow_succ]
theorem rnEq_is {k : Nat} (h1 : 1 ≤ k) (h8 : k ≤ 8) : TEqIs (rnEq (.x 1) k) := by
 have hdef : ∀ {hs : List (Tm × Bool)}, defTs ((.bin .lss .u64 (.x 1) (.c 128), false) :: hs) [.x 1] = true := fun {hs} => by
  simp only [defTs, defT, occL, occT, eqTm, Nat.beq_refl, Bool.or_true, Bool.true_or, Bool.and_self, Bool.false_or]
 refine teq_ev (by decide) hdef fun ν hs d hd => ?_
 have hsA := hs
 unfold rnHs at hsA
 obtain ⟨g1, g2, g3, g4⟩ := hsA
 rw [allSo_append] at g4
 obtain ⟨g4, g5⟩ := g4
 obtain ⟨x, y, k1, k2, k3⟩ := so_lss g1
 cases den_c k2
 have hn : IsN ν (.x 1) := isN_den k1
 have hx : nev ν (.x 1) = x := by unfold nev; rw [ev_den k1]; rfl
 have e1 := of_decide_eq_false k3
 have e3 := of_decide_eq_true (ev_leq.1 (so_ev g3))
 rw [hx, nev_c] at e3
 have e3 : x ≤ 18446744073709551615 := e3
 obtain ⟨N, rfl⟩ : ∃ N : Nat, x = N := ⟨x.toNat, by omega⟩
 have hN : N < 18446744073709551616 := by omega
 have q1 : k < 8 → N < 256 ^ k := fun hk => by
  rw [if_pos hk] at g4
  have := of_decide_eq_true (ev_eql.1 (so_ev g4.1))
  rw [nev_quoN hx hN, nev_c] at this
  have hp : 0 < 256 ^ k := Nat.pow_pos (by decide)
  rcases Nat.lt_or_ge N (256 ^ k) with h | h
  ·exact h
  ·have := Nat.div_pos h hp
   omega
 have q2 : 2 ≤ k → 256 ^ (k - 1) ≤ N := fun hk => by
  rw [if_pos hk] at g5
  have := of_decide_eq_false (ev_eql.1 (so_ev g5.1))
  rw [nev_quoN hx hN, nev_c] at this
  rcases Nat.lt_or_ge N (256 ^ (k - 1)) with h | h
  ·rw [Nat.div_eq_of_lt h] at this
   omega
  ·exact h
 have hc := cntB_eq h1 h8 q1 q2
 have hdig : evD ν (dig (.x 1) k 0) = .s (beB k N) := by
  have := evD_dig hx hN k 0 h1
  rw [Nat.pow_zero, Nat.div_one] at this
  exact this
 have hl : ∀ t : Tm, nev ν t = (k : Nat) → evD ν (CAT (BYTES [.conv .u8 (.bin .add .i64 (.c 128) t)]) (dig (.x 1) k 0)) = .s (UInt8.ofNat (128 + k) :: beB k N) := fun t ht => by
  have hb : nev ν (.conv .u8 (.bin .add .i64 (.c 128) t)) = ((128 + k : Nat) : Int) := by
   rw [nev_conv, nev_add, nev_c, ht, wr64 (by omega) (by omega), wu8 (by omega) (by omega)]
   omega
  exact evD_cat (evD_byte1 hb (by omega) (isN_conv ..)) hdig
 have hlen : nev ν (LEN (dig (.x 1) k 0)) = (k : Nat) := by
  rw [show nev ν (LEN (dig (.x 1) k 0)) = lenZ (evD ν (dig (.x 1) k 0)) from nev_len _, hdig]
  simp [lenZ, beB_len]
 have hend : evD ν (rnEq (.x 1) k).b = .s (UInt8.ofNat (128 + k) :: beB k N) := by
  unfold rnEq
  simp only
  split
  ·exact hl _ (nev_c 1)
  ·exact hl _ hlen
 have hend2 : d = .s (UInt8.ofNat (128 + k) :: beB k N) := (ev_den hd).symm.trans hend
 rw [hend2]
 simp only [evDs]
 rw [hn, hx]
 simp only [progU, flatU, NB]
 have e : w64 (N : Int) = N := by
  unfold w64
  rw [wu64 (by omega) (by omega)]
  rfl
 rw [e]
 unfold numB
 rw [if_neg (by omega), hc]
theorem rnEqs_is : ∀ e ∈ rnEqs (.x 1), TEqIs e := by
 intro e he
 simp only [rnEqs, List.mem_cons, List.mem_nil_iff, or_false] at he
 rcases he with rfl | rfl | rfl | rfl | rfl | rfl | rfl | rfl
 all_goals exact rnEq_is (by decide) (by decide)
theorem den_DST {s r : Tm} {d : Dat} : denT ν (DST s r) = some d ↔ ∃ x y, denT ν s = some x ∧ denT ν r = some y ∧ d = .n (dstZ (strOf x) (numOf y)) := den_T2 rfl
theorem den_DR {s r : Tm} {d : Dat} : denT ν (DR s r) = some d ↔ ∃ x y, denT ν s = some x ∧ denT ν r = some y ∧ d = .n (drZ (strOf x) (numOf y)) := den_T2 rfl
theorem den_DN {s r : Tm} {d : Dat} : denT ν (DN s r) = some d ↔ ∃ x y, denT ν s = some x ∧ denT ν r = some y ∧ d = .n (dnZ (strOf x) (numOf y)) := den_T2 rfl
theorem den_cc {n : Int} : denT ν (.c n) = some (.n n) := by simp only [denT]
theorem den_st2 {s r : Tm} {d : Dat} (h : denT ν (st2 s r) = some d) : ∃ x y, denT ν s = some x ∧ denT ν r = some y ∧ d = .n (dstZ (strOf x) (numOf y)) := by
 obtain ⟨x, y, z, h1, h2, h3, rfl⟩ := den_STEP.1 h
 obtain ⟨x', y', z', h4, h5, h6, rfl⟩ := den_STEP.1 h2
 rw [h1] at h4
 injection h4 with h4
 subst h4
 cases den_cn h3
 cases den_cn h6
 exact ⟨x, y', h1, h5, rfl⟩
theorem so_st2 {s r : Tm} {b : Bool} (h : IsSo ν (OKR (st2 s r)) b) : ∃ x y, denT ν s = some x ∧ denT ν r = some y ∧ okZ (dstZ (strOf x) (numOf y)) = b := by
 obtain ⟨d, h1, h2⟩ := so_OKR.1 h
 obtain ⟨x, y, h3, h4, rfl⟩ := den_st2 h1
 exact ⟨x, y, h3, h4, h2⟩
theorem dotEqs_is {s r : Tm} : ∀ e ∈ dotEqs s r, TEqIs e := by
 intro e he
 simp only [dotEqs, List.mem_cons, List.mem_nil_iff, or_false] at he
 rcases he with rfl | rfl | rfl | rfl | rfl | rfl | rfl
 ·intro ν _ d hd
  obtain ⟨x, y, h1, h2, rfl⟩ := den_st2 hd
  exact den_DST.2 ⟨x, y, h1, h2, rfl⟩
 ·intro ν hs d hd
  obtain ⟨x, y, h1, h2, h3⟩ := so_st2 hs.1
  cases den_cn hd
  refine den_DR.2 ⟨x, y, h1, h2, ?_⟩
  unfold drZ
  rw [if_neg (by have := okZ_false.1 h3; omega)]
 ·intro ν hs d hd
  obtain ⟨x, y, h1, h2, h3⟩ := so_st2 hs.1
  cases den_cn hd
  refine den_DN.2 ⟨x, y, h1, h2, ?_⟩
  unfold dnZ
  rw [if_neg (by have := okZ_false.1 h3; omega)]
 ·intro ν hs d hd
  obtain ⟨x, y, h1, h2, h3⟩ := so_st2 hs.1
  obtain ⟨q, k1, rfl⟩ := den_conv.1 hd
  obtain ⟨x', y', z', k2, k3, k4, k5⟩ := den_VAL.1 k1
  cases den_cn k4
  rw [h1] at k2; injection k2 with k2; subst k2
  rw [h2] at k3; injection k3 with k3; subst k3
  injection k5 with k5
  subst k5
  have hr := valZ_rng (strOf x) (numOf y) 255
  refine den_DR.2 ⟨x, y, h1, h2, ?_⟩
  unfold drZ
  rw [if_pos (okZ_true.1 h3)]
  show Dat.n (IntKind.u8.wrap (valZ (strOf x) (numOf y) 255)) = _
  rw [wu8 hr.1 (hr.2 (by decide))]
 ·intro ν hs d hd
  obtain ⟨x, y, h1, h2, h3⟩ := so_st2 hs.1
  obtain ⟨q, k1, rfl⟩ := den_conv.1 hd
  obtain ⟨x', y', z', k2, k3, k4, k5⟩ := den_VAL.1 k1
  cases den_cn k4
  obtain ⟨x'', y'', z'', k6, k7, k8, rfl⟩ := den_STEP.1 k3
  cases den_cn k8
  rw [h1] at k2; injection k2 with k2; subst k2
  rw [h1] at k6; injection k6 with k6; subst k6
  rw [h2] at k7; injection k7 with k7; subst k7
  injection k5 with k5
  subst k5
  have hr := valZ_rng (strOf x) (stepZ (strOf x) (numOf y) 255) 4294967295
  refine den_DN.2 ⟨x, y, h1, h2, ?_⟩
  unfold dnZ
  rw [if_pos (okZ_true.1 h3)]
  show Dat.n (IntKind.u32.wrap (valZ (strOf x) (stepZ (strOf x) (numOf y) 255) 4294967295)) = _
  rw [show IntKind.u32.wrap (valZ (strOf x) (stepZ (strOf x) (numOf y) 255) 4294967295) = _ from wrap_in hr.1 (hr.2 (by decide))]
 ·intro ν hs d hd
  obtain ⟨x, y, h1, h2, h3⟩ := so_st2 hs.1
  have e := ev_den hd
  rw [ev_nil0] at e
  subst e
  refine den_RB.2 ⟨x, _, h1, den_DST.2 ⟨x, y, h1, h2, rfl⟩, ?_⟩
  show _ = Dat.s (rbZ (strOf x) (dstZ (strOf x) (numOf y)))
  unfold rbZ
  rw [if_pos (okZ_false.1 h3)]
 ·intro ν hs d hd
  obtain ⟨x, y, h1, h2, h3⟩ := so_st2 hs.1
  cases den_cn hd
  refine den_OKR.2 ⟨_, den_DST.2 ⟨x, y, h1, h2, rfl⟩, ?_⟩
  show _ = Dat.n (i01 (okZ (dstZ (strOf x) (numOf y))))
  rw [h3]
  rfl
theorem openEqs_is : ∀ e ∈ openEqs, TEqIs e := by
 intro e he
 simp only [openEqs, List.mem_cons, List.mem_nil_iff, or_false] at he
 rcases he with rfl | rfl
 ·intro ν _ d hd
  cases den_cn hd
  exact den_ATR.2 ⟨_, den_cc, rfl⟩
 ·intro ν _ d hd
  cases den_cn hd
  exact den_OKR.2 ⟨_, den_cc, rfl⟩
theorem teqPg_ok : TEqOk teqPg := by
 intro e he
 unfold teqPg at he
 simp only [List.mem_append] at he
 have h : TEqIs e := by
  rcases he with ((((he | he) | he) | he) | he) | he
  ·exact wayEqs_is e he
  ·exact rnEqs_is e he
  ·exact takeEqs_is e he
  ·exact takeEqs0_is e he
  ·exact dotEqs_is e he
  ·exact openEqs_is e he
 exact fun ν hs => h ν (all_so hs)
end
end Go.Proofs.YtcjbpaiomcfgnaaGreatDoor
namespace Go.Proofs.YtcjbpaiomcfgnaaGreatDoor
open Go
section
variable {ν : Nm}
theorem evN_tot {o : Nat} (h : totN o = true) (l : List Tm) : evD ν (.f o l) = .n (uI o (evDs ν l)) :=
 evD_U (Nat.le_trans (by decide) (totN_ge h).1) (by rw [progU_N h]; rfl)
theorem nev_ATR' (r : Tm) : nev ν (ATR r) = atZ (numOf (evD ν r)) := by
 unfold nev ATR
 rw [evN_tot rfl]
 rfl
theorem lenZ_nn (d : Dat) : 0 ≤ lenZ d := by cases d <;> simp [lenZ]
theorem nev_LEN (t : Tm) : nev ν (LEN t) = lenZ (evD ν t) := nev_len t
theorem ev_leqT {k : IntKind} {a b : Tm} (h : nev ν a ≤ nev ν b) : decide (nev ν (.bin .leq k a b) ≠ 0) = true := ev_leq.2 (decide_eq_true h)
theorem ev_lssT {k : IntKind} {a b : Tm} (h : nev ν a < nev ν b) : decide (nev ν (.bin .lss k a b) ≠ 0) = true := ev_lss.2 (decide_eq_true h)
theorem lemR1_is (r : Tm) : LemIs (lemR1 r) := lem_ev fun ν _ => ev_leqT (by
 have h := atZ_rng (numOf (evD ν r))
 show nev ν (ATR r) ≤ nev ν (.bin .add .i64 (ATR r) (.c 1))
 rw [nev_add, nev_ATR', nev_c, wr64 (by omega) (by omega)]
 omega)
theorem nev_at1 (r : Tm) : nev ν (add1 (ATR r)) = atZ (numOf (evD ν r)) + 1 := by
 have h := atZ_rng (numOf (evD ν r))
 show nev ν (.bin .add .i64 (ATR r) (.c 1)) = _
 rw [nev_add, nev_ATR', nev_c, wr64 (by omega) (by omega)]
theorem sz_of {s : Tm} (h : IsSo ν (sz4 s).1 true) : 0 ≤ nev ν (LEN s) ∧ nev ν (LEN s) ≤ 1000000000000000 := by
 have := of_decide_eq_true (ev_leq.1 (so_ev h))
 rw [nev_c] at this
 exact ⟨by rw [nev_LEN]; exact lenZ_nn _, this⟩
theorem lemR2_is (s r : Tm) : LemIs (lemR2 s r) := lem_ev fun ν hs => ev_leqT (by
 obtain ⟨h1, h2, _⟩ := hs
 have h := atZ_rng (numOf (evD ν r))
 obtain ⟨l0, l1⟩ := sz_of h2
 have g := of_decide_eq_false (gone_ev h1 rfl (nev_ATR' r) (nev_c 1) l0 l1 h.1 (by omega))
 rw [nev_at1]
 omega)
theorem k18_of {k : Tm} (h : AllSo ν (k18 k)) : 1 ≤ nev ν k ∧ nev ν k ≤ 8 := by
 obtain ⟨h1, h2, _⟩ := h
 have h1 := of_decide_eq_false (ev_lss.1 (so_ev h1))
 have h2 := of_decide_eq_false (ev_gtr.1 (so_ev h2))
 rw [nev_c] at h1 h2
 omega
theorem nev_at1k {r k : Tm} (h1 : 0 ≤ nev ν k) (h2 : nev ν k ≤ 8) : nev ν (addI (add1 (ATR r)) k) = atZ (numOf (evD ν r)) + 1 + nev ν k := by
 have h := atZ_rng (numOf (evD ν r))
 show nev ν (.bin .add .i64 (add1 (ATR r)) k) = _
 rw [nev_add, nev_at1, wr64 (by omega) (by omega)]
theorem lemR3_is (s r : Tm) : LemIs (lemR3 s r) := lem_ev fun ν hs => ev_leqT (by
 obtain ⟨h1, h2⟩ := k18_of hs
 rw [nev_at1k (by omega) h2, nev_at1]
 omega)
theorem lemR4_is (s r : Tm) : LemIs (lemR4 s r) := lem_ev fun ν hs => ev_leqT (by
 obtain ⟨g1, g2, g3⟩ := hs
 obtain ⟨h1, h2⟩ := k18_of g3
 have h := atZ_rng (numOf (evD ν r))
 obtain ⟨l0, l1⟩ := sz_of g2
 have g := of_decide_eq_false (gone_ev g1 rfl (nev_at1 r) rfl l0 l1 (by omega) (by omega))
 rw [nev_at1k (by omega) h2]
 omega)
theorem lemT1_is (b : Tm) : LemIs (lemT1 b) := lem_ev fun ν hs => ev_leqT (by
 have h1 := of_decide_eq_false (ev_lss.1 (so_ev hs.1))
 omega)
theorem lemT2_is (b : Tm) : LemIs (lemT2 b) := lem_ev fun ν hs => ev_leqT (Int.le_refl _)
theorem lemPg_ok : LemOk lemPg := by
 unfold lemPg
 exact lemOk_cons (lemT2_is _) (lemOk_cons (lemR1_is _) (lemOk_cons (lemR2_is _ _) (lemOk_cons (lemR3_is _ _) (lemOk_cons (lemR4_is _ _) (lemOk_cons (lemT1_is _) (lemOk_cons (lemT2_is _) (lemOk_cons (lemT1_is _) lemOk_nil)))))))
theorem so_gt0 {n : Tm} {b : Bool} (h : IsSo ν (gt0 n b).1 b) : ∃ x, denT ν n = some (.n x) ∧ decide (x > 0) = b := by
 obtain ⟨x, y, h1, h2, h3⟩ := so_gtr h
 cases den_c h2
 exact ⟨x, h1, h3⟩
theorem nev_den {t : Tm} {x : Int} (h : denT ν t = some (.n x)) : nev ν t = x := by
 unfold nev; rw [ev_den h]; rfl
theorem leN_of {n : Tm} {m : Int} (h : IsSo ν (leN n m).1 true) : nev ν n ≤ m := by
 have := of_decide_eq_true (ev_leq.1 (so_ev h))
 rw [nev_c] at this
 exact this
def Cnt (ν : Nm) (t u : Tm) (k : Nat) : Prop := denT ν t = some (.n ((k + 1 : Nat) : Int)) ∧ denT ν u = some (.n (k : Int))
theorem cnt_down {n : Tm} {m : Int} (hm : m ≤ 1000000) (h1 : IsSo ν (gt0 n true).1 true) (h2 : IsSo ν (leN n m).1 true) : ∃ k : Nat, Cnt ν n (sub1 n) k ∧ (k : Int) + 1 ≤ m := by
 obtain ⟨x, hx, h⟩ := so_gt0 h1
 have h := of_decide_eq_true h
 have h3 := leN_of h2
 rw [nev_den hx] at h3
 obtain ⟨k, rfl⟩ : ∃ k : Nat, x = ((k + 1 : Nat) : Int) := ⟨x.toNat - 1, by omega⟩
 refine ⟨k, ⟨hx, den_bin.2 ⟨_, 1, hx, den_cc, ?_⟩⟩, by omega⟩
 show some (Dat.n (IntKind.u64.wrap (((k + 1 : Nat) : Int) - 1))) = _
 rw [wu64 (by omega) (by omega)]
 congr 2
 omega
theorem rng2_of {c i : Tm} (h : AllSo ν (rng2 c i)) : ∃ x y : Int, denT ν c = some (.n x) ∧ denT ν i = some (.n y) ∧ 0 ≤ x ∧ x ≤ 18446744073709551615 ∧ 0 ≤ y ∧ y ≤ 18446744073709551615 := by
 unfold rng2 rngF at h
 obtain ⟨h1, h2, h3, h4, _⟩ := h
 obtain ⟨x, z, k1, k2, k3⟩ := so_geq h1
 obtain ⟨y, z', k4, k5, k6⟩ := so_geq h3
 cases den_c k2
 cases den_c k5
 have h2 := of_decide_eq_true (ev_leq.1 (so_ev h2))
 have h4 := of_decide_eq_true (ev_leq.1 (so_ev h4))
 rw [nev_den k1, nev_c] at h2
 rw [nev_den k4, nev_c] at h4
 exact ⟨x, y, k1, k4, of_decide_eq_true k3, h2, of_decide_eq_true k6, h4⟩
theorem so_ltU {c i : Tm} {b : Bool} {x y : Int} (hx : denT ν c = some (.n x)) (hy : denT ν i = some (.n y)) (h : IsSo ν (ltU i c b).1 b) : decide (y < x) = b := by
 have := ev_lss.1 (so_ev h)
 rw [nev_den hx, nev_den hy] at this
 exact this
theorem cnt_up {c i : Tm} (h1 : IsSo ν (ltU i c true).1 true) (h3 : AllSo ν (rng2 c i)) : ∃ (k : Nat) (x y : Int), Cnt ν (dn c i) (dn c (addU i)) k ∧ denT ν c = some (.n x) ∧ denT ν i = some (.n y) ∧ 0 ≤ y ∧ x ≤ 18446744073709551615 ∧ x - y = ((k + 1 : Nat) : Int) ∧ denT ν (addU i) = some (.n (y + 1)) := by
 obtain ⟨x, y, hx, hy, a1, a2, a3, a4⟩ := rng2_of h3
 have h := of_decide_eq_true (so_ltU hx hy h1)
 obtain ⟨k, hk⟩ : ∃ k : Nat, x - y = ((k + 1 : Nat) : Int) := ⟨(x - y).toNat - 1, by omega⟩
 have hadd : denT ν (addU i) = some (.n (y + 1)) := by
  refine den_bin.2 ⟨y, 1, hy, den_cc, ?_⟩
  show some (Dat.n (IntKind.u64.wrap (y + 1))) = _
  rw [wu64 (by omega) (by omega)]
 refine ⟨k, x, y, ⟨den_bin.2 ⟨x, y, hx, hy, ?_⟩, den_bin.2 ⟨x, y + 1, hx, hadd, ?_⟩⟩, hx, hy, a3, a2, hk, hadd⟩
 ·show some (Dat.n (IntKind.u64.wrap (x - y))) = _
  rw [wu64 (by omega) (by omega), hk]
 ·show some (Dat.n (IntKind.u64.wrap (x - (y + 1)))) = _
  rw [wu64 (by omega) (by omega)]
  congr 2
  omega
theorem so_ISL {x : Tm} {b : Bool} : IsSo ν (.f 123 [x]) b ↔ ∃ d, denT ν x = some d ∧ islZ d = b := so_T1 (f := islZ) rfl fun _ => rfl
theorem isl_of {x : Tm} (h : IsSo ν (ISL x).1 true) : ∃ xs, denT ν x = some (.l xs) := by
 obtain ⟨d, h1, h2⟩ := so_ISL.1 h
 cases d <;> simp [islZ] at h2
 exact ⟨_, h1⟩
theorem den_cat {x e : Tm} {xs es : List Dat} (h1 : denT ν x = some (.l xs)) (h2 : denT ν e = some (.l es)) : denT ν (CAT x e) = some (.l (xs ++ es)) := den_f2.2 (.inr ⟨xs, es, h1, h2, rfl⟩)
theorem den_lenL {x : Tm} {xs : List Dat} (h1 : denT ν x = some (.l xs)) : denT ν (LEN x) = some (.n xs.length) := den_f0.2 ⟨_, _, h1, rfl, rfl⟩
theorem leL_of {x : Tm} {m : Int} {xs : List Dat} (hx : denT ν x = some (.l xs)) (h : IsSo ν (leL x m).1 true) : (xs.length : Int) ≤ m := by
 have := of_decide_eq_true (ev_leq.1 (so_ev h))
 rw [nev_den (den_lenL hx), nev_c] at this
 exact this
theorem cntL_of {x n : Tm} {m : Int} {xs : List Dat} {k : Nat} (hx : denT ν x = some (.l xs)) (hn : denT ν n = some (.n (k : Int))) (hl : (xs.length : Int) ≤ 1000000) (hk : (k : Int) ≤ 1000000) (h : IsSo ν (cntL x n m).1 true) : (xs.length : Int) + k ≤ m := by
 have := of_decide_eq_true (ev_leq.1 (so_ev h))
 have e : nev ν (addI (LEN x) (.conv .i64 n)) = xs.length + k := by
  show nev ν (.bin .add .i64 _ _) = _
  rw [nev_add, nev_conv, nev_den (den_lenL hx), nev_den hn, wr64 (x := (k : Int)) (by omega) (by omega), wr64 (by omega) (by omega)]
 rw [e, nev_c] at this
 exact this
theorem so_leqM {k : IntKind} {a b : Tm} {x y : Int} (h1 : denT ν a = some (.n x)) (h2 : denT ν b = some (.n y)) (h : x ≤ y) : IsSo ν (.bin .leq k a b) true := so_cmp_mk (fun _ _ => rfl) h1 h2 (decide_eq_true h)
theorem leL_mk {x : Tm} {m : Int} {xs : List Dat} (hx : denT ν x = some (.l xs)) (h : (xs.length : Int) ≤ m) : IsSo ν (leL x m).1 true := so_leqM (den_lenL hx) den_cc h
theorem cntL_mk {x n : Tm} {m : Int} {xs : List Dat} {k : Nat} (hx : denT ν x = some (.l xs)) (hn : denT ν n = some (.n (k : Int))) (hl : (xs.length : Int) ≤ 1000000) (hk : (k : Int) ≤ 1000000) (h : (xs.length : Int) + k ≤ m) : IsSo ν (cntL x n m).1 true := by
 refine so_leqM (x := xs.length + k) (den_bin.2 ⟨_, _, den_lenL hx, den_conv.2 ⟨_, hn, rfl⟩, ?_⟩) den_cc h
 show some (Dat.n (IntKind.i64.wrap ((xs.length : Int) + IntKind.i64.wrap (k : Int)))) = _
 rw [wr64 (x := (k : Int)) (by omega) (by omega), wr64 (by omega) (by omega)]
theorem lem_of {e : Lem} (h : ∀ ν : Nm, AllSo ν e.hs → ∀ b, IsSo ν e.t b → IsSo ν e.t e.b) : LemIs e := fun ν hs b hb => by
 obtain ⟨n, h1, h2⟩ := h ν hs b hb
 obtain ⟨m, k1, k2⟩ := hb
 rw [den_one h1 k1] at h2
 rw [← k2, h2]
theorem cat_of {x e : Tm} {es : List Dat} {d : Dat} (he : denT ν e = some (.l es)) (h : denT ν (CAT x e) = some d) : ∃ xs, denT ν x = some (.l xs) ∧ d = .l (xs ++ es) := by
 rcases den_f2.1 h with ⟨a, b, h1, h2, _⟩ | ⟨a, b, h1, h2, rfl⟩
 ·rw [he] at h2; cases h2
 ·rw [he] at h2
  injection h2 with h2
  injection h2 with h2
  subst h2
  exact ⟨a, h1, rfl⟩
theorem one_of {t e : Tm} (h : e = .f 11 [t]) {d : Dat} (hd : denT ν e = some d) : ∃ q, denT ν t = some q ∧ d = .l [q] := by
 subst h
 obtain ⟨ds, h1, rfl⟩ := (den_list (.inl rfl)).1 hd
 obtain ⟨q, h2, rfl⟩ := denTs1.1 h1
 exact ⟨q, h2, rfl⟩
end
end Go.Proofs.YtcjbpaiomcfgnaaGreatDoor
namespace Go.Proofs.YtcjbpaiomcfgnaaGreatDoor
open Go
section
variable {ν : Nm}
theorem stepZ_neg {l : List UInt8} {ρ m : Int} (h : ρ < 0) : stepZ l ρ m < 0 := by rw [(step_neg h).1]; exact h
theorem dstZ_neg {l : List UInt8} {ρ : Int} (h : ρ < 0) : dstZ l ρ < 0 := stepZ_neg (stepZ_neg h)
theorem lstZ_neg {l : List UInt8} : ∀ (n : Nat) {ρ : Int}, ρ < 0 → lstZ l n ρ < 0
 | 0, _, h => h
 | n + 1, _, h => lstZ_neg n (dstZ_neg (dstZ_neg h))
theorem aendZ_neg {l : List UInt8} : ∀ (n : Nat) {ρ : Int}, ρ < 0 → aendZ l n ρ < 0
 | 0, _, h => h
 | n + 1, ρ, h => by
  show (if 0 ≤ ρ then _ else ρ) < 0
  rw [if_neg (by omega)]
  exact h
theorem den_LST {s r n : Tm} {d : Dat} : denT ν (LST s r n) = some d ↔ ∃ x y z, denT ν s = some x ∧ denT ν r = some y ∧ denT ν n = some z ∧ d = .n (lstZ (strOf x) (numOf z).toNat (numOf y)) := den_T3 rfl
theorem so_LAPP {s r n x y : Tm} {b : Bool} : IsSo ν (LAPP s r n x y) b ↔ ∃ S R N X Y, denT ν s = some S ∧ denT ν r = some R ∧ denT ν n = some N ∧ denT ν x = some X ∧ denT ν y = some Y ∧ lappZ (strOf S) (numOf R) (numOf N) X Y = b :=
 so_T5 (f := fun S R N X Y => lappZ (strOf S) (numOf R) (numOf N) X Y) rfl fun _ _ _ _ _ => rfl
theorem sz_den {s : Tm} (h : IsSo ν (sz4 s).1 true) : ∃ S, denT ν s = some S := by
 obtain ⟨x, y, k1, _⟩ := so_leq h
 obtain ⟨S, n, hS, _⟩ := len_row k1
 exact ⟨S, hS⟩
theorem here_den {r : Tm} (h : IsSo ν (here r).1 (here r).2) : ∃ R, denT ν r = some R := by
 obtain ⟨x, y, k1, _⟩ := so_geq h
 obtain ⟨R, hR, _⟩ := den_OKR.1 k1
 exact ⟨R, hR⟩
theorem den_dst2 {s r : Tm} {S R : Dat} (hS : denT ν s = some S) (hR : denT ν r = some R) : denT ν (dst2 s r) = some (.n (dstZ (strOf S) (dstZ (strOf S) (numOf R)))) := den_DST.2 ⟨S, _, hS, den_DST.2 ⟨S, R, hS, hR, rfl⟩, rfl⟩
def lineD (l : List UInt8) (ρ : Int) : Dat := .l [.n (drZ l ρ), .n (dnZ l ρ), .n (drZ l (dstZ l ρ)), .n (dnZ l (dstZ l ρ))]
theorem den_line1 {s r : Tm} {S R : Dat} (hS : denT ν s = some S) (hR : denT ν r = some R) : denT ν (line1 s r) = some (.l [lineD (strOf S) (numOf R)]) := by
 have hD : denT ν (DST s r) = some (.n (dstZ (strOf S) (numOf R))) := den_DST.2 ⟨S, R, hS, hR, rfl⟩
 refine (den_list (.inl rfl)).2 ⟨_, denTs1.2 ⟨lineD (strOf S) (numOf R), (den_list (.inr rfl)).2 ⟨_, ?_, rfl⟩, rfl⟩, rfl⟩
 exact denTs_mk (den_DR.2 ⟨S, R, hS, hR, rfl⟩) (denTs_mk (den_DN.2 ⟨S, R, hS, hR, rfl⟩) (denTs_mk (den_DR.2 ⟨S, _, hS, hD, rfl⟩) (denTs_mk (den_DN.2 ⟨S, _, hS, hD, rfl⟩) denTs0)))
theorem viewL_line (l : List UInt8) (ρ : Int) : viewL (lineD l ρ) = lineZ l ρ := by
 have h1 := drZ_rng l ρ
 have h2 := dnZ_rng l ρ
 have h3 := drZ_rng l (dstZ l ρ)
 have h4 := dnZ_rng l (dstZ l ρ)
 show [IntKind.u8.wrap (drZ l ρ), IntKind.u32.wrap (dnZ l ρ), IntKind.u8.wrap (drZ l (dstZ l ρ)), IntKind.u32.wrap (dnZ l (dstZ l ρ))] = _
 rw [wu8 h1.1 h1.2, wu8 h3.1 h3.2, show IntKind.u32.wrap (dnZ l ρ) = _ from wrap_in h2.1 h2.2, show IntKind.u32.wrap (dnZ l (dstZ l ρ)) = _ from wrap_in h4.1 h4.2]
 rfl
theorem lapp_one {s r t u x : Tm} {k : Nat} {S R : Dat} {xs : List Dat} (hS : denT ν s = some S) (hR : denT ν r = some R) (hc : Cnt ν t u k) (hx : denT ν x = some (.l xs)) (h : k = 0 ∨ dstZ (strOf S) (dstZ (strOf S) (numOf R)) < 0) : IsSo ν (LAPP s r t x (CAT x (line1 s r))) true := by
 refine so_LAPP.2 ⟨S, R, _, _, _, hS, hR, hc.1, hx, den_cat hx (den_line1 hS hR), decide_eq_true ?_⟩
 show 0 ≤ lstZ (strOf S) (((k + 1 : Nat) : Int)).toNat (numOf R) → _
 rw [Int.toNat_natCast]
 intro h0
 rcases h with rfl | h
 ·show List.map viewL (xs ++ [lineD (strOf S) (numOf R)]) = List.map viewL xs ++ [lineZ (strOf S) (numOf R)]
  rw [List.map_append, List.map_singleton, viewL_line]
 ·have := lstZ_neg (l := strOf S) k h
  have h0 : 0 ≤ lstZ (strOf S) k (dstZ (strOf S) (dstZ (strOf S) (numOf R))) := h0
  omega
theorem lapp_more {s r t u x y : Tm} {k : Nat} (hc : Cnt ν t u k) (h : IsSo ν (LAPP s (dst2 s r) u (CAT x (line1 s r)) y) true) : IsSo ν (LAPP s r t x y) true := by
 obtain ⟨S, R2, N, X, Y, hS, hR2, hN, hX, hY, h1⟩ := so_LAPP.1 h
 obtain ⟨S', R1, k1, k2, rfl⟩ := den_DST.1 hR2
 obtain ⟨S'', R, k3, k4, rfl⟩ := den_DST.1 k2
 rw [hS] at k1; injection k1 with k1; subst k1
 rw [hS] at k3; injection k3 with k3; subst k3
 rw [hc.2] at hN; injection hN with hN; subst hN
 obtain ⟨xs, hx, rfl⟩ := cat_of (den_line1 hS k4) hX
 refine so_LAPP.2 ⟨S, R, _, _, Y, hS, k4, hc.1, hx, hY, decide_eq_true ?_⟩
 have h1 : lappZ (strOf S) (dstZ (strOf S) (dstZ (strOf S) (numOf R))) (k : Int) (.l (xs ++ [lineD (strOf S) (numOf R)])) Y = true := h1
 have h1 := of_decide_eq_true h1
 show 0 ≤ lstZ (strOf S) (((k + 1 : Nat) : Int)).toNat (numOf R) → (listOf Y).map viewL = xs.map viewL ++ linesZ (strOf S) (((k + 1 : Nat) : Int)).toNat (numOf R)
 rw [Int.toNat_natCast]
 intro h0
 have h2 := h1 (by rw [Int.toNat_natCast]; exact h0)
 rw [Int.toNat_natCast] at h2
 rw [h2]
 show List.map viewL (xs ++ [lineD (strOf S) (numOf R)]) ++ _ = _
 rw [List.map_append, List.map_singleton, viewL_line, List.append_assoc]
 rfl
theorem lst_more {s r t u : Tm} {k : Nat} (hc : Cnt ν t u k) {d : Dat} (h : denT ν (LST s (dst2 s r) u) = some d) : denT ν (LST s r t) = some d := by
 obtain ⟨S, R2, N, hS, hR2, hN, rfl⟩ := den_LST.1 h
 obtain ⟨S', R1, k1, k2, rfl⟩ := den_DST.1 hR2
 obtain ⟨S'', R, k3, k4, rfl⟩ := den_DST.1 k2
 rw [hS] at k1; injection k1 with k1; subst k1
 rw [hS] at k3; injection k3 with k3; subst k3
 rw [hc.2] at hN; injection hN with hN; subst hN
 refine den_LST.2 ⟨S, R, _, hS, k4, hc.1, ?_⟩
 show Dat.n (lstZ (strOf S) (((k : Nat) : Int)).toNat _) = Dat.n (lstZ (strOf S) (((k + 1 : Nat) : Int)).toNat _)
 rw [Int.toNat_natCast, Int.toNat_natCast]
 rfl
theorem leL_more {x e t u : Tm} {m : Int} {k : Nat} {xs : List Dat} {q : Dat} (hm : m ≤ 100000) (hc : Cnt ν t u k) (hk : (k : Int) + 1 ≤ m) (hx : denT ν x = some (.l xs)) (he : denT ν e = some (.l [q])) (h1 : IsSo ν (cntL x t m).1 true) (h2 : IsSo ν (leL x m).1 true) : IsSo ν (leL (CAT x e) m).1 true := by
 have l1 := leL_of hx h2
 have l2 := cntL_of hx hc.1 (by omega) (by omega) h1
 refine leL_mk (den_cat hx he) ?_
 simp only [List.length_append, List.length_cons, List.length_nil]
 omega
theorem cnt_more {x e t u : Tm} {m : Int} {k : Nat} {xs : List Dat} {q : Dat} (hc : Cnt ν t u k) (hk : (k : Int) + 1 ≤ 100000) (hx : denT ν x = some (.l xs)) (he : denT ν e = some (.l [q])) (h1 : IsSo ν (cntL x t m).1 true) : IsSo ν (cntL (CAT x e) u m).1 true := by
 obtain ⟨p, m', a1, a2, a3⟩ := so_leq h1
 cases den_c a2
 have a3 := of_decide_eq_true a3
 obtain ⟨y, z, b1, b2, b3⟩ := den_add a1
 obtain ⟨w, b4, b5⟩ := den_convn b2
 cases den_one b1 (den_lenL hx)
 cases den_one b4 hc.1
 subst b3 b5
 refine so_leqM (x := IntKind.i64.wrap ((xs.length : Int) + IntKind.i64.wrap ((k + 1 : Nat) : Int))) (den_bin.2 ⟨_, _, den_lenL (den_cat hx he), den_conv.2 ⟨_, hc.2, rfl⟩, ?_⟩) den_cc a3
 show some (Dat.n (IntKind.i64.wrap (((xs ++ [q]).length : Int) + IntKind.i64.wrap (k : Int)))) = _
 rw [wr64 (x := (k : Int)) (by omega) (by omega), wr64 (x := ((k + 1 : Nat) : Int)) (by omega) (by omega)]
 congr 3
 simp only [List.length_append, List.length_cons, List.length_nil]
 omega
theorem isl_more {x e : Tm} {xs es : List Dat} (hx : denT ν x = some (.l xs)) (he : denT ν e = some (.l es)) : IsSo ν (ISL (CAT x e)).1 true := so_ISL.2 ⟨_, den_cat hx he, rfl⟩
theorem len_of {x e : Tm} {t : Tm} (he : e = .f 11 [t]) {n : Int} (h : denT ν (LEN (CAT x e)) = some (.n n)) : ∃ xs q, denT ν x = some (.l xs) ∧ denT ν e = some (.l [q]) := by
 obtain ⟨d, l, h1, _⟩ := len_row h
 rcases den_f2.1 h1 with ⟨a, b, k1, k2, _⟩ | ⟨a, b, k1, k2, _⟩
 ·obtain ⟨q, _, h3⟩ := one_of he k2
  cases h3
 ·obtain ⟨q, _, h3⟩ := one_of he k2
  injection h3 with h3
  subst h3
  exact ⟨a, q, k1, k2⟩
theorem leL_len {x : Tm} {m : Int} {b : Bool} (h : IsSo ν (leL x m).1 b) : ∃ n, denT ν (LEN x) = some (.n n) := by
 obtain ⟨x, y, h1, _⟩ := so_leq h
 exact ⟨x, h1⟩
theorem cntL_len {x n : Tm} {m : Int} {b : Bool} (h : IsSo ν (cntL x n m).1 b) : ∃ n, denT ν (LEN x) = some (.n n) := by
 obtain ⟨p, m', a1, _⟩ := so_leq h
 obtain ⟨y, z, b1, _⟩ := den_add a1
 exact ⟨y, b1⟩
theorem lemC1_is (n : Tm) : LemIs (lemC1 n) := lem_of fun ν hs b hb => by
 obtain ⟨h1, h2, h3, _⟩ := hs
 obtain ⟨x, hx, h⟩ := so_gt0 h1
 have h := of_decide_eq_true h
 have h3 := of_decide_eq_true (ev_leq.1 (so_ev h3))
 rw [nev_den hx, nev_c] at h3
 have h3 : x ≤ 18446744073709551615 := h3
 refine so_leqM (y := x - 1) den_cc (den_bin.2 ⟨x, 1, hx, den_cc, ?_⟩) (by omega)
 show some (Dat.n (IntKind.u64.wrap (x - 1))) = _
 rw [wu64 (by omega) (by omega)]
theorem lemC2_is (n : Tm) : LemIs (lemC2 n) := lem_ev fun ν hs => ev_lssT (by
 obtain ⟨h1, h2, h3, h4, _⟩ := hs
 obtain ⟨x, hx, h⟩ := so_gt0 h1
 have h := of_decide_eq_true h
 have h3 := of_decide_eq_true (ev_leq.1 (so_ev h3))
 rw [nev_den hx, nev_c] at h3
 have h3 : x ≤ 18446744073709551615 := h3
 have h4 := of_decide_eq_true (ev_leq.1 (so_ev h4))
 rw [nev_den hx] at h4
 show nev ν (.bin .sub .u64 n (.c 1)) < _
 rw [nev_sub, nev_den hx, nev_c, wu64 (by omega) (by omega)]
 omega)
theorem lemC3_is (n : Tm) {m : Int} (hm : m ≤ 1000000) : LemIs (lemC3 n m) := lem_of fun ν hs b hb => by
 obtain ⟨k, hc, hk⟩ := cnt_down hm hs.1 hs.2.1
 exact so_leqM hc.2 den_cc (by omega)
theorem lemC4_is {x e n t : Tm} (he : e = .f 11 [t]) {m : Int} (hm : m ≤ 100000) : LemIs (lemC4 x e n m) := lem_of fun ν hs b hb => by
 obtain ⟨k, hc, hk⟩ := cnt_down (by omega) hs.1 hs.2.1
 obtain ⟨z, hz⟩ := cntL_len hb
 obtain ⟨xs, q, hx, hq⟩ := len_of he hz
 exact cnt_more hc (by omega) hx hq hs.2.2.1
theorem lemC5_is {x e n t : Tm} (he : e = .f 11 [t]) {m : Int} (hm : m ≤ 100000) : LemIs (lemC5 x e n m) := lem_of fun ν hs b hb => by
 obtain ⟨k, hc, hk⟩ := cnt_down (by omega) hs.1 hs.2.1
 obtain ⟨z, hz⟩ := leL_len hb
 obtain ⟨xs, q, hx, hq⟩ := len_of he hz
 exact leL_more hm hc hk hx hq hs.2.2.1 hs.2.2.2.1
theorem lemC6_is {x e t : Tm} (he : e = .f 11 [t]) : LemIs (lemC6 x e) := lem_of fun ν hs b hb => by
 obtain ⟨xs, hx⟩ := isl_of hs.1
 obtain ⟨d, h1, _⟩ := so_ISL.1 hb
 rcases den_f2.1 h1 with ⟨a, b, k1, k2, _⟩ | ⟨a, b, k1, k2, _⟩
 ·rw [hx] at k1; cases k1
 ·exact isl_more hx k2
theorem lemLn_ok : LemOk lemLn := by
 unfold lemLn
 exact lemOk_cons (lemC1_is _) (lemOk_cons (lemC2_is _) (lemOk_cons (lemC3_is _ (by decide)) (lemOk_cons (lemC4_is rfl (by decide)) (lemOk_cons (lemC5_is rfl (by decide)) (lemOk_cons (lemC6_is rfl) lemOk_nil)))))
theorem k0_of {n : Tm} {k : Nat} (hc : Cnt ν n (sub1 n) k) (h : IsSo ν (gt0 (sub1 n) false).1 false) : k = 0 := by
 obtain ⟨x, hx, h⟩ := so_gt0 h
 cases den_one hx hc.2
 have h := of_decide_eq_false h
 omega
theorem lemDL1_is (s r n x : Tm) : LemDIs (lemDL1 s r n x) := fun ν hs => by
 obtain ⟨h1, h2, h3, h4, h5, h6, _⟩ := hs
 obtain ⟨k, hc, hk⟩ := cnt_down (by decide) h1 h2
 obtain ⟨xs, hx⟩ := isl_of h4
 obtain ⟨S, hS⟩ := sz_den h6
 obtain ⟨R, hR⟩ := here_den h5
 exact lapp_one hS hR hc hx (.inl (k0_of hc h3))
theorem lemDL2_is (s r n x : Tm) : LemDIs (lemDL2 s r n x) := fun ν hs => by
 obtain ⟨h1, h2, h3, h3', h4, h5, h6, _⟩ := hs
 obtain ⟨k, hc, hk⟩ := cnt_down (by decide) h1 h2
 obtain ⟨xs, hx⟩ := isl_of h4
 obtain ⟨S, hS⟩ := sz_den h6
 obtain ⟨R, hR⟩ := here_den h5
 exact leL_more (by decide) hc hk hx (den_line1 hS hR) h3 h3'
theorem lemDL3_is (s r n x y : Tm) : LemDIs (lemDL3 s r n x y) := fun ν hs => by
 obtain ⟨h1, h2, h3, _⟩ := hs
 obtain ⟨k, hc, hk⟩ := cnt_down (by decide) h1 h2
 exact lapp_more hc h3
theorem lemDLn_ok : LemD lemDLn := by
 unfold lemDLn
 exact lemD_cons (lemDL1_is _ _ _ _) (lemD_cons (lemDL2_is _ _ _ _) (lemD_cons (lemDL3_is _ _ _ _ _) lemD_nil))
theorem base2_is {hs : List (Tm × Bool)} {s t r : Tm} (h : ∀ ν : Nm, AllSo ν hs → ∀ R, denT ν r = some R → denT ν t = some (.n (numOf R))) : ∀ e ∈ base2 hs s t r, TEqIs e := by
 intro e he
 simp only [base2, List.mem_cons, List.mem_nil_iff, or_false] at he
 rcases he with rfl | rfl | rfl
 ·intro ν hs d hd
  obtain ⟨R, hR, rfl⟩ := den_ATR.1 hd
  exact den_ATR.2 ⟨_, h ν hs R hR, rfl⟩
 ·intro ν hs d hd
  obtain ⟨R, hR, rfl⟩ := den_OKR.1 hd
  exact den_OKR.2 ⟨_, h ν hs R hR, rfl⟩
 ·intro ν hs d hd
  obtain ⟨S, R, hS, hR, rfl⟩ := den_RB.1 hd
  exact den_RB.2 ⟨S, _, hS, h ν hs R hR, rfl⟩
theorem teqLn1_is (s r n : Tm) : ∀ e ∈ teqLn1 s r n, TEqIs e := by
 intro e he
 unfold teqLn1 at he
 rcases List.mem_append.1 he with he | he
 ·refine base2_is (fun ν hs R hR => ?_) e he
  obtain ⟨x, hx, h⟩ := so_gt0 hs.1
  have h := of_decide_eq_false h
  obtain ⟨S, hS⟩ := sz_den hs.2.1
  refine den_LST.2 ⟨S, R, _, hS, hR, hx, ?_⟩
  show _ = Dat.n (lstZ _ x.toNat _)
  rw [show x.toNat = 0 by omega]
  rfl
 ·simp only [List.mem_cons, List.mem_nil_iff, or_false] at he
  subst he
  intro ν hs d hd
  obtain ⟨k, hc, hk⟩ := cnt_down (by decide) hs.1 hs.2.1
  exact lst_more hc hd
theorem mem_ok {l : List TEq} (h : ∀ e ∈ l, TEqIs e) : TEqOk l := fun e he ν hs => h e he ν (all_so hs)
theorem teqLn_ok : TEqOk teqLn := mem_ok (teqLn1_is _ _ _)
end
end Go.Proofs.YtcjbpaiomcfgnaaGreatDoor
namespace Go.Proofs.YtcjbpaiomcfgnaaGreatDoor
open Go
set_option maxRecDepth 20000
section
variable {ν : Nm}
def opsZ (ops : List (Option (Int × Option IntKind))) : List (Option Int) := ops.map fun o => o.map (·.1)
theorem opsZ_rd : opsZ rdOps = rdOpsZ := rfl
def okOp : Option (Int × Option IntKind) → Bool
 | none => true
 | some (m, none) => decide (0 ≤ m)
 | some (m, some k) => decide (0 ≤ m) && decide (m ≤ k.max) && decide (k.min ≤ 0)
theorem rdOps_ok : rdOps.all okOp = true := by decide
theorem den_opStep {s r : Tm} {o : Option (Int × Option IntKind)} {d : Dat} (h : denT ν (opStep s r o) = some d) : ∃ S R, denT ν s = some S ∧ denT ν r = some R ∧ d = .n (opStepZ (strOf S) (numOf R) (o.map (·.1))) := by
 cases o with
 | none => exact den_DST.1 h
 | some p =>
  obtain ⟨S, R, M, h1, h2, h3, rfl⟩ := den_STEP.1 h
  cases den_cn h3
  exact ⟨S, R, h1, h2, rfl⟩
theorem den_opStep_mk {s r : Tm} {o : Option (Int × Option IntKind)} {S R : Dat} (h1 : denT ν s = some S) (h2 : denT ν r = some R) : denT ν (opStep s r o) = some (.n (opStepZ (strOf S) (numOf R) (o.map (·.1)))) := by
 cases o with
 | none => exact den_DST.2 ⟨S, R, h1, h2, rfl⟩
 | some p => exact den_STEP.2 ⟨S, R, _, h1, h2, den_cc, rfl⟩
theorem den_opsStep {s : Tm} : ∀ {ops : List (Option (Int × Option IntKind))} {r : Tm} {d : Dat}, denT ν (opsStep s ops r) = some d → ∃ R, denT ν r = some R ∧ ((ops = [] ∧ d = R) ∨ ∃ S, denT ν s = some S ∧ d = .n (opsStepZ (strOf S) (opsZ ops) (numOf R)))
 | [], r, d, h => ⟨d, h, .inl ⟨rfl, rfl⟩⟩
 | o :: ops, r, d, h => by
  obtain ⟨R1, h1, h2⟩ := den_opsStep (ops := ops) (r := opStep s r o) h
  obtain ⟨S, R, k1, k2, rfl⟩ := den_opStep h1
  refine ⟨R, k2, .inr ?_⟩
  rcases h2 with ⟨rfl, rfl⟩ | ⟨S', k3, rfl⟩
  ·exact ⟨S, k1, rfl⟩
  ·rw [k1] at k3; injection k3 with k3; subst k3
   exact ⟨S, k1, rfl⟩
theorem den_opsStep_mk {s : Tm} {S : Dat} (hs : denT ν s = some S) : ∀ {ops : List (Option (Int × Option IntKind))} {r : Tm} {R : Dat}, denT ν r = some R → ∃ R', denT ν (opsStep s ops r) = some R' ∧ numOf R' = opsStepZ (strOf S) (opsZ ops) (numOf R)
 | [], r, R, h => ⟨R, h, rfl⟩
 | o :: ops, r, R, h => den_opsStep_mk hs (ops := ops) (den_opStep_mk hs h)
theorem opVals_len (l : List UInt8) (s r : Tm) (ρ : Int) (o : Option (Int × Option IntKind)) : (opVals s r o).length = (opValsZ l ρ (o.map (·.1))).length := by
 match o with
 | none => rfl
 | some (m, none) => rfl
 | some (m, some k) => rfl
theorem opVals_den {s r : Tm} {o : Option (Int × Option IntKind)} (ho : okOp o = true) {j : Nat} {t : Tm} (h : (opVals s r o)[j]? = some t) {d : Dat} (hd : denT ν t = some d) : ∃ S R z, denT ν s = some S ∧ denT ν r = some R ∧ (opValsZ (strOf S) (numOf R) (o.map (·.1)))[j]? = some z ∧ d = .n z := by
 match o, j, h with
 | none, 0, h =>
  simp only [opVals, List.getElem?_cons_zero, Option.some.injEq] at h
  subst h
  obtain ⟨S, R, h1, h2, rfl⟩ := den_DR.1 hd
  exact ⟨S, R, _, h1, h2, rfl, rfl⟩
 | none, 1, h =>
  simp only [opVals, List.getElem?_cons_succ, List.getElem?_cons_zero, Option.some.injEq] at h
  subst h
  obtain ⟨S, R, h1, h2, rfl⟩ := den_DN.1 hd
  exact ⟨S, R, _, h1, h2, rfl, rfl⟩
 | none, j + 2, h => simp [opVals] at h
 | some (m, none), 0, h =>
  simp only [opVals, List.getElem?_cons_zero, Option.some.injEq] at h
  subst h
  obtain ⟨S, R, M, h1, h2, h3, rfl⟩ := den_VAL.1 hd
  cases den_cn h3
  exact ⟨S, R, _, h1, h2, rfl, rfl⟩
 | some (m, some k), 0, h =>
  simp only [opVals, List.getElem?_cons_zero, Option.some.injEq] at h
  subst h
  obtain ⟨x, hx, rfl⟩ := den_conv.1 hd
  obtain ⟨S, R, M, h1, h2, h3, h4⟩ := den_VAL.1 hx
  cases den_cn h3
  injection h4 with h4
  subst h4
  simp only [okOp, Bool.and_eq_true, decide_eq_true_eq] at ho
  have hr := valZ_rng (strOf S) (numOf R) m
  refine ⟨S, R, valZ (strOf S) (numOf R) m, h1, h2, rfl, ?_⟩
  show Dat.n (k.wrap (valZ (strOf S) (numOf R) m)) = _
  rw [show k.wrap (valZ (strOf S) (numOf R) m) = _ from wrap_in (Int.le_trans ho.2 hr.1) (Int.le_trans (hr.2 ho.1.1) ho.1.2)]
 | some (m, none), j + 1, h => simp [opVals] at h
 | some (m, some k), j + 1, h => simp [opVals] at h
theorem opsVals_den {s : Tm} : ∀ {ops : List (Option (Int × Option IntKind))} {r : Tm} {j : Nat} {t : Tm}, ops.all okOp = true → (opsVals s ops r)[j]? = some t → ∀ {d : Dat}, denT ν t = some d → ∃ S R z, denT ν s = some S ∧ denT ν r = some R ∧ (opsValsZ (strOf S) (opsZ ops) (numOf R))[j]? = some z ∧ d = .n z
 | [], r, j, t, _, h, d, hd => by simp [opsVals] at h
 | o :: ops, r, j, t, ha, h, d, hd => by
  simp only [List.all_cons, Bool.and_eq_true] at ha
  simp only [opsVals] at h
  by_cases hj : j < (opVals s r o).length
  ·rw [List.getElem?_append_left hj] at h
   obtain ⟨S, R, z, h1, h2, h3, h4⟩ := opVals_den ha.1 h hd
   refine ⟨S, R, z, h1, h2, ?_, h4⟩
   show (opValsZ (strOf S) (numOf R) (o.map (·.1)) ++ _)[j]? = some z
   rw [List.getElem?_append_left (by rw [← opVals_len (strOf S) s r (numOf R) o]; exact hj)]
   exact h3
  ·have hj := Nat.le_of_not_lt hj
   rw [List.getElem?_append_right hj] at h
   obtain ⟨S, R1, z, h1, h2, h3, h4⟩ := opsVals_den ha.2 h hd
   obtain ⟨S', R, k1, k2, rfl⟩ := den_opStep h2
   rw [h1] at k1; injection k1 with k1; subst k1
   refine ⟨S, R, z, h1, k2, ?_, h4⟩
   show (opValsZ (strOf S) (numOf R) (o.map (·.1)) ++ _)[j]? = some z
   have hl := opVals_len (strOf S) s r (numOf R) o
   rw [List.getElem?_append_right (by omega), ← hl]
   exact h3
theorem rdVals_len (l : List UInt8) (ρ : Int) : (opsValsZ l rdOpsZ ρ).length = 20 := rfl
theorem totN_cell {j : Nat} (h : j ≤ 22) : totN (130 + j) = true := by
 unfold totN
 simp only [Bool.or_eq_true, Bool.and_eq_true, Nat.ble_eq]
 omega
theorem uI_cellj {j : Nat} (h : j ≤ 22) (x y : Dat) : uI (130 + j) [x, y] = acellZ (strOf x) (numOf y) j := by
 obtain h | h | h | h | h | h | h | h | h | h | h | h | h | h | h | h | h | h | h | h | h | h | h : j = 0 ∨ j = 1 ∨ j = 2 ∨ j = 3 ∨ j = 4 ∨ j = 5 ∨ j = 6 ∨ j = 7 ∨ j = 8 ∨ j = 9 ∨ j = 10 ∨ j = 11 ∨ j = 12 ∨ j = 13 ∨ j = 14 ∨ j = 15 ∨ j = 16 ∨ j = 17 ∨ j = 18 ∨ j = 19 ∨ j = 20 ∨ j = 21 ∨ j = 22 := by omega
 all_goals subst h; rfl
theorem den_ACELL {s r : Tm} {j : Nat} (h : j ≤ 22) {d : Dat} : denT ν (ACELL s r j) = some d ↔ ∃ x y, denT ν s = some x ∧ denT ν r = some y ∧ d = .n (acellZ (strOf x) (numOf y) j) := by
 have := den_T2 (ν := ν) (totN_cell h) (a := s) (b := r) (d := d)
 unfold ACELL
 rw [this]
 constructor
 ·rintro ⟨x, y, h1, h2, rfl⟩; exact ⟨x, y, h1, h2, by rw [uI_cellj h]⟩
 ·rintro ⟨x, y, h1, h2, rfl⟩; exact ⟨x, y, h1, h2, by rw [uI_cellj h]⟩
theorem cellEqs_mem {s r : Tm} : ∀ {l : List Tm} {j : Nat} {e : TEq}, e ∈ cellEqs s r j l → ∃ i t, l[i]? = some t ∧ e = ⟨[], ACELL s r (j + i), t⟩
 | [], _, e, h => by simp [cellEqs] at h
 | a :: l, j, e, h => by
  simp only [cellEqs, List.mem_cons] at h
  rcases h with rfl | h
  ·exact ⟨0, a, rfl, rfl⟩
  ·obtain ⟨i, t, h1, h2⟩ := cellEqs_mem h
   refine ⟨i + 1, t, h1, ?_⟩
   rw [h2, show j + 1 + i = j + (i + 1) by omega]
theorem opsVals_len {s r : Tm} : (opsVals s rdOps r).length = 20 := rfl
theorem cellEqs_is {s r : Tm} : ∀ e ∈ cellEqs s r 0 (opsVals s rdOps r), TEqIs e := by
 intro e he
 obtain ⟨i, t, h1, rfl⟩ := cellEqs_mem he
 have hi : i < 20 := by
  have := (List.getElem?_eq_some_iff.1 h1).1
  rw [opsVals_len] at this
  exact this
 intro ν _ d hd
 obtain ⟨S, R, z, h2, h3, h4, rfl⟩ := opsVals_den rdOps_ok h1 hd
 rw [Nat.zero_add]
 refine (den_ACELL (by omega)).2 ⟨S, R, h2, h3, ?_⟩
 unfold acellZ
 rw [if_neg (by omega), if_neg (by omega)]
 rw [opsZ_rd] at h4
 rw [h4]
 rfl
theorem den_rN {s r : Tm} {d : Dat} (h : denT ν (rN s r) = some d) : ∃ S R, denT ν s = some S ∧ denT ν r = some R ∧ d = .n (rNZ (strOf S) (numOf R)) := by
 obtain ⟨R, h1, h2⟩ := den_opsStep h
 rcases h2 with ⟨h2, _⟩ | ⟨S, h2, rfl⟩
 ·cases h2
 ·exact ⟨S, R, h2, h1, rfl⟩
theorem den_rN_mk {s r : Tm} {S R : Dat} (h1 : denT ν s = some S) (h2 : denT ν r = some R) : ∃ R', denT ν (rN s r) = some R' ∧ numOf R' = rNZ (strOf S) (numOf R) := den_opsStep_mk h1 h2
theorem den_rL {s r : Tm} {d : Dat} (h : denT ν (rL s r) = some d) : ∃ S R, denT ν s = some S ∧ denT ν r = some R ∧ d = .n (rLZ (strOf S) (numOf R)) := by
 obtain ⟨S, N, M, h1, h2, h3, rfl⟩ := den_STEP.1 h
 cases den_cn h3
 obtain ⟨S', R, k1, k2, rfl⟩ := den_rN h2
 rw [h1] at k1; injection k1 with k1; subst k1
 exact ⟨S, R, h1, k2, rfl⟩
theorem den_rL_mk {s r : Tm} {S R : Dat} (h1 : denT ν s = some S) (h2 : denT ν r = some R) : denT ν (rL s r) = some (.n (rLZ (strOf S) (numOf R))) := by
 obtain ⟨R', k1, k2⟩ := den_rN_mk h1 h2
 refine den_STEP.2 ⟨S, R', _, h1, k1, den_cc, ?_⟩
 rw [k2]
 rfl
theorem den_nL {s r : Tm} {d : Dat} (h : denT ν (nL s r) = some d) : ∃ S R, denT ν s = some S ∧ denT ν r = some R ∧ d = .n (nLZ (strOf S) (numOf R)) := by
 obtain ⟨S, N, M, h1, h2, h3, rfl⟩ := den_VAL.1 h
 cases den_cn h3
 obtain ⟨S', R, k1, k2, rfl⟩ := den_rN h2
 rw [h1] at k1; injection k1 with k1; subst k1
 exact ⟨S, R, h1, k2, rfl⟩
theorem nLZ_rng (l : List UInt8) (ρ : Int) : 0 ≤ nLZ l ρ ∧ nLZ l ρ ≤ 16 := ⟨(valZ_rng ..).1, (valZ_rng ..).2 (by decide)⟩
theorem nL_none {s r : Tm} (h : IsSo ν (gt0 (nL s r) false).1 false) : ∃ S R, denT ν s = some S ∧ denT ν r = some R ∧ nLZ (strOf S) (numOf R) = 0 := by
 obtain ⟨x, hx, h⟩ := so_gt0 h
 obtain ⟨S, R, h1, h2, h3⟩ := den_nL hx
 injection h3 with h3
 subst h3
 have := nLZ_rng (strOf S) (numOf R)
 have h := of_decide_eq_false h
 exact ⟨S, R, h1, h2, by omega⟩
theorem nL_some {s r : Tm} (h : IsSo ν (gt0 (nL s r) true).1 true) : ∃ S R, ∃ k : Nat, denT ν s = some S ∧ denT ν r = some R ∧ nLZ (strOf S) (numOf R) = ((k + 1 : Nat) : Int) ∧ Cnt ν (nL s r) (sub1 (nL s r)) k ∧ (k : Int) + 1 ≤ 16 := by
 obtain ⟨x, hx, h0⟩ := so_gt0 h
 obtain ⟨S, R, h1, h2, h3⟩ := den_nL hx
 injection h3 with h3
 have hr := nLZ_rng (strOf S) (numOf R)
 obtain ⟨k, hc, hk⟩ := cnt_down (m := 16) (by decide) h (so_leqM hx den_cc (by omega))
 have e := den_one hx hc.1
 exact ⟨S, R, k, h1, h2, by omega, hc, hk⟩
def IsEnd (s r e : Tm) (hs : List (Tm × Bool)) : Prop := ∀ ν : Nm, AllSo ν hs → ∀ d, denT ν e = some d → ∃ S R, denT ν s = some S ∧ denT ν r = some R ∧ d = .n (eLZ (strOf S) (numOf R))
theorem endEqs_is {s r e : Tm} {hs : List (Tm × Bool)} (h : IsEnd s r e hs) : ∀ q ∈ endEqs s r e hs, TEqIs q := by
 intro q hq
 simp only [endEqs, List.mem_cons, List.mem_nil_iff, or_false] at hq
 rcases hq with rfl | rfl | rfl
 ·intro ν hs d hd
  obtain ⟨S', E, k1, k2, rfl⟩ := den_DR.1 hd
  obtain ⟨S, R, h1, h2, rfl⟩ := h ν hs E k2
  rw [h1] at k1; injection k1 with k1; subst k1
  exact (den_ACELL (by decide)).2 ⟨S, R, h1, h2, rfl⟩
 ·intro ν hs d hd
  obtain ⟨S', E, k1, k2, rfl⟩ := den_DN.1 hd
  obtain ⟨S, R, h1, h2, rfl⟩ := h ν hs E k2
  rw [h1] at k1; injection k1 with k1; subst k1
  exact (den_ACELL (by decide)).2 ⟨S, R, h1, h2, rfl⟩
 ·intro ν hs d hd
  obtain ⟨S', E, k1, k2, rfl⟩ := den_DST.1 hd
  obtain ⟨S, R, h1, h2, rfl⟩ := h ν hs E k2
  rw [h1] at k1; injection k1 with k1; subst k1
  exact den_T2 (o := 119) rfl |>.2 ⟨S, R, h1, h2, rfl⟩
theorem end_none {s r : Tm} : IsEnd s r (rL s r) [gt0 (nL s r) false] := fun ν hs d hd => by
 obtain ⟨S, R, h1, h2, h3⟩ := nL_none hs.1
 obtain ⟨S', R', k1, k2, rfl⟩ := den_rL hd
 rw [h1] at k1; injection k1 with k1; subst k1
 rw [h2] at k2; injection k2 with k2; subst k2
 refine ⟨S, R, h1, h2, ?_⟩
 unfold eLZ
 rw [h3]
 rfl
theorem end_some {s r : Tm} : IsEnd s r (LST s (dst2 s (rL s r)) (sub1 (nL s r))) [gt0 (nL s r) true] := fun ν hs d hd => by
 obtain ⟨S, R, k, h1, h2, h3, hc, hk⟩ := nL_some hs.1
 obtain ⟨S', R', N, k1, k2, k3, rfl⟩ := den_LST.1 (lst_more hc hd)
 rw [h1] at k1; injection k1 with k1; subst k1
 rw [den_rL_mk h1 h2] at k2; injection k2 with k2; subst k2
 rw [hc.1] at k3; injection k3 with k3; subst k3
 refine ⟨S, R, h1, h2, ?_⟩
 unfold eLZ
 rw [h3]
 rfl
theorem teqAct_is (s r : Tm) : ∀ e ∈ teqAct s r, TEqIs e := by
 intro e he
 unfold teqAct at he
 simp only [List.mem_append] at he
 rcases he with (he | he) | he
 ·exact cellEqs_is e he
 ·exact endEqs_is end_none e he
 ·exact endEqs_is end_some e he
theorem one_line {s r : Tm} {S R : Dat} (h1 : denT ν s = some S) (h2 : denT ν r = some R) : denT ν (line1 s (rL s r)) = some (.l [lineD (strOf S) (rLZ (strOf S) (numOf R))]) := by
 have h := den_line1 h1 (den_rL_mk h1 h2)
 rw [numOf_n] at h
 exact h
theorem lemAct_ok (s r : Tm) : LemOk (lemAct s r) := by
 unfold lemAct
 refine lemOk_cons (lem_of fun ν hs b hb => ?_) (lemOk_cons (lem_of fun ν hs b hb => ?_) (lemOk_cons (lem_of fun ν hs b hb => ?_) lemOk_nil))
 ·obtain ⟨S, R, k, h1, h2, h3, hc, hk⟩ := nL_some hs.1
  exact so_leqM hc.2 den_cc (by omega)
 ·obtain ⟨d, h1, _⟩ := so_ISL.1 hb
  obtain ⟨q, _, rfl⟩ := one_of rfl h1
  exact so_ISL.2 ⟨_, h1, rfl⟩
 ·obtain ⟨S, R, k, h1, h2, h3, hc, hk⟩ := nL_some hs.1
  have hl := one_line h1 h2
  exact cntL_mk hl hc.2 (by simp) (by omega) (by simp only [List.length_cons, List.length_nil]; omega)
theorem so_LOK {s r y : Tm} {b : Bool} : IsSo ν (LOK s r y) b ↔ ∃ S R Y, denT ν s = some S ∧ denT ν r = some R ∧ denT ν y = some Y ∧ lokZ (strOf S) (numOf R) Y = b :=
 so_T3 (f := fun S R Y => lokZ (strOf S) (numOf R) Y) rfl fun _ _ _ => rfl
theorem frz_of {y t : Tm} (h : IsSo ν (frzF y t).1 (frzF y t).2) : ∃ e v xs, denT ν y = some (.r e v xs) ∧ denT ν t = some (.l xs) := by
 obtain ⟨n, h1, h2⟩ := h
 obtain ⟨x, z, k1, k2, k3⟩ := den_f20.1 h1
 obtain ⟨e, v, xs, k4, rfl⟩ := den_f15.1 k1
 have := dec_b01 _ n k3
 rw [show decide (n ≠ 0) = true from h2] at this
 have := sameD_eq.1 this.symm
 exact ⟨e, v, xs, k4, by rw [k2, this]⟩
theorem den_none {e : Int} {d : Dat} (h : denT ν (.f 14 [.c e]) = some d) : listOf d = [] := by
 rw [denT_f rfl] at h
 obtain ⟨ds, h1, h2⟩ := h
 obtain ⟨x, h3, rfl⟩ := denTs1.1 h1
 cases den_cn h3
 have h2 : emptyF (.n e) = some d := h2
 obtain ⟨m, _, rfl⟩ := emptyF_some h2
 rfl
theorem den_none_mk (e : Int) : ∃ d, denT ν (.f 14 [.c e]) = some d := by
 refine ⟨.r e.toNat (.slice none 0 0) [], ?_⟩
 rw [denT_f rfl]
 exact ⟨_, denTs1.2 ⟨_, den_cc, rfl⟩, rfl⟩
theorem lok_none {s r : Tm} {e : Int} {S R : Dat} (h1 : denT ν s = some S) (h2 : denT ν r = some R) (h : nLZ (strOf S) (numOf R) = 0) : IsSo ν (LOK s r (.f 14 [.c e])) true := by
 obtain ⟨d, hd⟩ := den_none_mk (ν := ν) e
 refine so_LOK.2 ⟨S, R, d, h1, h2, hd, decide_eq_true fun _ => ?_⟩
 rw [den_none hd, h]
 rfl
theorem lok_one {s r y : Tm} {k : Nat} {S R : Dat} (h1 : denT ν s = some S) (h2 : denT ν r = some R) (h : nLZ (strOf S) (numOf R) = ((k + 1 : Nat) : Int)) (hk : k = 0 ∨ dstZ (strOf S) (dstZ (strOf S) (rLZ (strOf S) (numOf R))) < 0) (hf : IsSo ν (frzF y (line1 s (rL s r))).1 (frzF y (line1 s (rL s r))).2) : IsSo ν (LOK s r y) true := by
 obtain ⟨e, v, xs, hy, hx⟩ := frz_of hf
 rw [one_line h1 h2] at hx
 injection hx with hx
 injection hx with hx
 subst hx
 refine so_LOK.2 ⟨S, R, _, h1, h2, hy, decide_eq_true fun h0 => ?_⟩
 rw [h, Int.toNat_natCast]
 rcases hk with rfl | hk
 ·show [viewL (lineD (strOf S) (rLZ (strOf S) (numOf R)))] = [lineZ (strOf S) (rLZ (strOf S) (numOf R))]
  rw [viewL_line]
 ·exfalso
  have h0 : 0 ≤ dstZ (strOf S) (eLZ (strOf S) (numOf R)) := h0
  have : eLZ (strOf S) (numOf R) < 0 := by
   unfold eLZ
   rw [h, Int.toNat_natCast]
   exact lstZ_neg k hk
  have := dstZ_neg (l := strOf S) this
  omega
theorem lok_more {s r x y t u : Tm} {k : Nat} {S R : Dat} (h1 : denT ν s = some S) (h2 : denT ν r = some R) (hc : Cnt ν t u k) (h : nLZ (strOf S) (numOf R) = ((k + 1 : Nat) : Int)) (ha : IsSo ν (LAPP s (dst2 s (rL s r)) u (line1 s (rL s r)) x) true) (hf : IsSo ν (frzF y x).1 (frzF y x).2) : IsSo ν (LOK s r y) true := by
 obtain ⟨e, v, xs, hy, hx⟩ := frz_of hf
 obtain ⟨S', R2, N, X, Y, k1, k2, k3, k4, k5, k6⟩ := so_LAPP.1 ha
 rw [h1] at k1; injection k1 with k1; subst k1
 rw [den_dst2 h1 (den_rL_mk h1 h2)] at k2; injection k2 with k2; subst k2
 rw [hc.2] at k3; injection k3 with k3; subst k3
 rw [one_line h1 h2] at k4; injection k4 with k4; subst k4
 rw [hx] at k5; injection k5 with k5; subst k5
 have k6 := of_decide_eq_true k6
 rw [show (numOf (.n (k : Int))).toNat = k from Int.toNat_natCast k] at k6
 refine so_LOK.2 ⟨S, R, _, h1, h2, hy, decide_eq_true fun h0 => ?_⟩
 have he : eLZ (strOf S) (numOf R) = lstZ (strOf S) k (dstZ (strOf S) (dstZ (strOf S) (rLZ (strOf S) (numOf R)))) := by
  unfold eLZ
  rw [h, Int.toNat_natCast]
  rfl
 have h0 : 0 ≤ dstZ (strOf S) (eLZ (strOf S) (numOf R)) := h0
 have h3 : 0 ≤ eLZ (strOf S) (numOf R) := by
  refine Int.not_lt.1 fun hc => ?_
  have := dstZ_neg (l := strOf S) hc
  omega
 rw [he] at h3
 have := k6 h3
 show List.map viewL xs = _
 rw [h, Int.toNat_natCast]
 rw [show listOf (.l xs) = xs from rfl] at this
 rw [this]
 show [viewL (lineD (strOf S) (rLZ (strOf S) (numOf R)))] ++ _ = _
 rw [viewL_line]
 rfl
theorem lemDAct_ok (s r : Tm) (e : Int) : LemD (lemDAct s r e) := by
 unfold lemDAct
 refine lemD_cons (fun ν hs => ?_) (lemD_cons (fun ν hs => ?_) (lemD_cons (fun ν hs => ?_) lemD_nil))
 ·obtain ⟨S, R, h1, h2, h3⟩ := nL_none hs.1
  exact lok_none h1 h2 h3
 ·obtain ⟨S, R, k, h1, h2, h3, hc, hk⟩ := nL_some hs.1
  exact lok_one h1 h2 h3 (.inl (k0_of hc hs.2.1)) hs.2.2.1
 ·obtain ⟨S, R, k, h1, h2, h3, hc, hk⟩ := nL_some hs.1
  exact lok_more h1 h2 hc h3 hs.2.1 hs.2.2.1
end
end Go.Proofs.YtcjbpaiomcfgnaaGreatDoor
namespace Go.Proofs.YtcjbpaiomcfgnaaGreatDoor
open Go
set_option maxRecDepth 20000
section
variable {ν : Nm}
def acellsD (l : List UInt8) (ρ : Int) : List Dat := (List.range 20).map fun j => .n (acellZ l ρ j)
def actD (l : List UInt8) (ρ : Int) (Y : Dat) : Dat := .l (acellsD l ρ ++ [Y, .n (acellZ l ρ 21), .n (acellZ l ρ 22)])
theorem den_AST {s r : Tm} {d : Dat} : denT ν (AST s r) = some d ↔ ∃ x y, denT ν s = some x ∧ denT ν r = some y ∧ d = .n (astZ (strOf x) (numOf y)) := den_T2 rfl
theorem den_AEND {s r n : Tm} {d : Dat} : denT ν (AEND s r n) = some d ↔ ∃ x y z, denT ν s = some x ∧ denT ν r = some y ∧ denT ν n = some z ∧ d = .n (aendZ (strOf x) (numOf z).toNat (numOf y)) := den_T3 rfl
theorem so_AAPP {s r n x y : Tm} {b : Bool} : IsSo ν (AAPP s r n x y) b ↔ ∃ S R N X Y, denT ν s = some S ∧ denT ν r = some R ∧ denT ν n = some N ∧ denT ν x = some X ∧ denT ν y = some Y ∧ aappZ (strOf S) (numOf R) (numOf N) X Y = b :=
 so_T5 (f := fun S R N X Y => aappZ (strOf S) (numOf R) (numOf N) X Y) rfl fun _ _ _ _ _ => rfl
theorem denTs_map {f : Nat → Tm} {g : Nat → Dat} : ∀ {l : List Nat}, (∀ j ∈ l, denT ν (f j) = some (g j)) → denTs ν (l.map f) = some (l.map g)
 | [], _ => denTs0
 | j :: l, h => denTs_mk (h j (List.mem_cons_self ..)) (denTs_map fun i hi => h i (List.mem_cons_of_mem _ hi))
theorem denTs_app : ∀ {l m : List Tm} {a b : List Dat}, denTs ν l = some a → denTs ν m = some b → denTs ν (l ++ m) = some (a ++ b)
 | [], m, a, b, h1, h2 => by
  cases denTs_nil h1
  exact h2
 | t :: l, m, a, b, h1, h2 => by
  obtain ⟨d, r, k1, k2, rfl⟩ := denTs_cons h1
  exact denTs_mk k1 (denTs_app k2 h2)
theorem den_act1 {s r y : Tm} {S R Y : Dat} (hS : denT ν s = some S) (hR : denT ν r = some R) (hY : denT ν y = some Y) : denT ν (act1 s r y) = some (.l [actD (strOf S) (numOf R) Y]) := by
 refine (den_list (.inl rfl)).2 ⟨_, denTs1.2 ⟨actD (strOf S) (numOf R) Y, (den_list (.inr rfl)).2 ⟨_, denTs_app (denTs_map fun j hj => ?_) (denTs_mk hY (denTs_mk ?_ (denTs_mk ?_ denTs0))), rfl⟩, rfl⟩, rfl⟩
 ·have : j < 20 := List.mem_range.1 hj
  exact (den_ACELL (by omega)).2 ⟨S, R, hS, hR, rfl⟩
 ·exact (den_ACELL (by decide)).2 ⟨S, R, hS, hR, rfl⟩
 ·exact (den_ACELL (by decide)).2 ⟨S, R, hS, hR, rfl⟩
theorem cells_eq (l : List UInt8) (ρ : Int) : (List.range 20).map (acellZ l ρ) = opsValsZ l rdOpsZ ρ := by
 refine List.ext_getElem? fun j => ?_
 rw [List.getElem?_map]
 by_cases hj : j < 20
 ·rw [List.getElem?_range hj]
  have hl := rdVals_len l ρ
  show some (acellZ l ρ j) = _
  unfold acellZ
  rw [if_neg (by omega), if_neg (by omega)]
  obtain ⟨z, hz⟩ : ∃ z, (opsValsZ l rdOpsZ ρ)[j]? = some z := ⟨_, List.getElem?_eq_getElem (by omega)⟩
  rw [hz]
  rfl
 ·rw [List.getElem?_eq_none (by simp; omega), List.getElem?_eq_none (by rw [rdVals_len]; omega)]
  rfl
theorem wraps_at : ∀ {ks : List IntKind} {d : Dat} {j : Nat} {xs : List Int}, ks.length = xs.length → (∀ (i : Nat) (k : IntKind) (x : Int), ks[i]? = some k → xs[i]? = some x → k.wrap (cellI d (j + i)) = x) → wrapsZ d ks j = xs
 | [], d, j, [], _, _ => rfl
 | [], _, _, _ :: _, h, _ => by cases h
 | _ :: _, _, _, [], h, _ => by cases h
 | k :: ks, d, j, x :: xs, h, hx => by
  show k.wrap (cellI d j) :: wrapsZ d ks (j + 1) = _
  rw [show k.wrap (cellI d j) = x from hx 0 k x rfl rfl, wraps_at (by simpa using h) fun i k x h1 h2 => by
   have := hx (i + 1) k x h1 h2
   rw [show j + 1 + i = j + (i + 1) by omega]
   exact this]
theorem ks_most : ∀ (i : Nat) (k : IntKind) (m : Int), ksZ[i]? = some k → mostsZ[i]? = some m → k.min ≤ 0 ∧ m ≤ k.max := by
 intro i k m h1 h2
 have hi : i < 20 := (List.getElem?_eq_some_iff.1 h1).1
 obtain h | h | h | h | h | h | h | h | h | h | h | h | h | h | h | h | h | h | h | h : i = 0 ∨ i = 1 ∨ i = 2 ∨ i = 3 ∨ i = 4 ∨ i = 5 ∨ i = 6 ∨ i = 7 ∨ i = 8 ∨ i = 9 ∨ i = 10 ∨ i = 11 ∨ i = 12 ∨ i = 13 ∨ i = 14 ∨ i = 15 ∨ i = 16 ∨ i = 17 ∨ i = 18 ∨ i = 19 := by omega
 all_goals
  subst h
  injection h1 with h1
  injection h2 with h2
  subst h1 h2
  decide
theorem cellI_cells (l : List UInt8) (ρ : Int) (Y : Dat) {j : Nat} (h : j < 20) : cellI (actD l ρ Y) j = acellZ l ρ j := by
 have e : (acellsD l ρ ++ [Y, .n (acellZ l ρ 21), .n (acellZ l ρ 22)])[j]? = some (.n (acellZ l ρ j)) := by
  rw [List.getElem?_append_left (by simp [acellsD]; exact h)]
  unfold acellsD
  rw [List.getElem?_map, List.getElem?_range h]
  rfl
 unfold actD cellI
 simp only [e]
theorem cell_20 (l : List UInt8) (ρ : Int) (Y : Dat) : (acellsD l ρ ++ [Y, .n (acellZ l ρ 21), .n (acellZ l ρ 22)])[20]? = some Y ∧ (acellsD l ρ ++ [Y, .n (acellZ l ρ 21), .n (acellZ l ρ 22)])[21]? = some (.n (acellZ l ρ 21)) ∧ (acellsD l ρ ++ [Y, .n (acellZ l ρ 21), .n (acellZ l ρ 22)])[22]? = some (.n (acellZ l ρ 22)) := by
 have hl : (acellsD l ρ).length = 20 := by simp [acellsD]
 refine ⟨?_, ?_, ?_⟩
 all_goals rw [List.getElem?_append_right (by omega), hl]; rfl
theorem viewA_act {l : List UInt8} {ρ : Int} {Y : Dat} (h : (listOf Y).map viewL = linesZ l (nLZ l ρ).toNat (rLZ l ρ)) : viewA (actD l ρ Y) = actZ l ρ := by
 obtain ⟨c0, c1, c2⟩ := cell_20 l ρ Y
 have e1 : wrapsZ (actD l ρ Y) ksZ 0 = opsValsZ l rdOpsZ ρ := by
  rw [← cells_eq]
  refine wraps_at (by simp [ksZ]) fun i k x h1 h2 => ?_
  have hi : i < 20 := (List.getElem?_eq_some_iff.1 h1).1
  rw [List.getElem?_map, List.getElem?_range hi] at h2
  injection h2 with h2
  subst h2
  rw [Nat.zero_add, cellI_cells l ρ Y hi]
  obtain ⟨m, hm⟩ : ∃ m, mostsZ[i]? = some m := ⟨_, List.getElem?_eq_getElem (by show i < 23; omega)⟩
  obtain ⟨g1, g2⟩ := ks_most i k m h1 hm
  have hr := acellZ_rng l ρ hm
  exact wrap_in (by omega) (by omega)
 have e2 : linesOf (actD l ρ Y) = listOf Y := by
  unfold actD linesOf
  simp only [c0]
 have e3 : cellI (actD l ρ Y) 21 = acellZ l ρ 21 := by
  unfold actD cellI
  simp only [c1]
 have e4 : cellI (actD l ρ Y) 22 = acellZ l ρ 22 := by
  unfold actD cellI
  simp only [c2]
 have h1 := drZ_rng l (eLZ l ρ)
 have h2 := dnZ_rng l (eLZ l ρ)
 unfold viewA actZ
 rw [e1, e2, e3, e4, h]
 have f1 : acellZ l ρ 21 = drZ l (eLZ l ρ) := rfl
 have f2 : acellZ l ρ 22 = dnZ l (eLZ l ρ) := rfl
 rw [f1, f2, wu8 h1.1 h1.2, show IntKind.u32.wrap (dnZ l (eLZ l ρ)) = _ from wrap_in h2.1 h2.2]
theorem aendZ_pos {l : List UInt8} {k : Nat} {ρ : Int} (h : 0 ≤ ρ) : aendZ l (k + 1) ρ = aendZ l k (astZ l ρ) := by
 show (if 0 ≤ ρ then _ else ρ) = _
 rw [if_pos h]
theorem aendZ_fix {l : List UInt8} (n : Nat) {ρ : Int} (h : ρ < 0) : aendZ l n ρ = ρ := by
 cases n with
 | zero => rfl
 | succ n =>
  show (if 0 ≤ ρ then _ else ρ) = ρ
  rw [if_neg (by omega)]
theorem asZ_pos {l : List UInt8} {k : Nat} {ρ : Int} (h : 0 ≤ ρ) : asZ l (k + 1) ρ = actZ l ρ :: asZ l k (astZ l ρ) := by
 show (if 0 ≤ ρ then _ else []) = _
 rw [if_pos h]
theorem aend_back {l : List UInt8} : ∀ (k : Nat) {ρ : Int}, 0 ≤ aendZ l k ρ → 0 ≤ ρ := fun k ρ h => by
 refine Int.not_lt.1 fun hc => ?_
 have := aendZ_neg (l := l) k hc
 omega
theorem fine_of {r : Tm} {R : Dat} (hR : denT ν r = some R) (h : IsSo ν (fine r).1 true) : 0 ≤ numOf R := by
 obtain ⟨R', h1, h2⟩ := so_OKR.1 h
 rw [hR] at h1; injection h1 with h1; subst h1
 exact okZ_true.1 h2
theorem nofine_of {r : Tm} {R : Dat} (hR : denT ν r = some R) (h : IsSo ν (OKR r) false) : numOf R < 0 := by
 obtain ⟨R', h1, h2⟩ := so_OKR.1 h
 rw [hR] at h1; injection h1 with h1; subst h1
 exact okZ_false.1 h2
theorem den_AST_mk {s r : Tm} {S R : Dat} (hS : denT ν s = some S) (hR : denT ν r = some R) : denT ν (AST s r) = some (.n (astZ (strOf S) (numOf R))) := den_AST.2 ⟨S, R, hS, hR, rfl⟩
theorem aapp_one {s r t u x y : Tm} {k : Nat} {S R : Dat} {xs : List Dat} (hS : denT ν s = some S) (hR : denT ν r = some R) (h0 : 0 ≤ numOf R) (hc : Cnt ν t u k) (hx : denT ν x = some (.l xs)) (hl : IsSo ν (LOK s r y) true) (h : k = 0 ∨ astZ (strOf S) (numOf R) < 0) : IsSo ν (AAPP s r t x (CAT x (act1 s r y))) true := by
 obtain ⟨S', R', Y, k1, k2, k3, k4⟩ := so_LOK.1 hl
 rw [hS] at k1; injection k1 with k1; subst k1
 rw [hR] at k2; injection k2 with k2; subst k2
 refine so_AAPP.2 ⟨S, R, _, _, _, hS, hR, hc.1, hx, den_cat hx (den_act1 hS hR k3), decide_eq_true ?_⟩
 rw [numOf_n, Int.toNat_natCast, aendZ_pos h0, asZ_pos h0]
 intro h1
 have h2 := aend_back k h1
 rcases h with rfl | h
 ·have := of_decide_eq_true k4 h2
  show List.map viewA (xs ++ [actD (strOf S) (numOf R) Y]) = List.map viewA xs ++ [actZ (strOf S) (numOf R)]
  rw [List.map_append, List.map_singleton, viewA_act this]
 ·omega
theorem aapp_more {s r t u x y z : Tm} {k : Nat} {R : Dat} (hR : denT ν r = some R) (h0 : 0 ≤ numOf R) (hc : Cnt ν t u k) (hl : IsSo ν (LOK s r y) true) (h : IsSo ν (AAPP s (AST s r) u (CAT x (act1 s r y)) z) true) : IsSo ν (AAPP s r t x z) true := by
 obtain ⟨S, R', Y, hS, k2, k3, k4⟩ := so_LOK.1 hl
 rw [hR] at k2; injection k2 with k2; subst k2
 obtain ⟨S', R2, N, X, Z, g1, g2, g3, g4, g5, g6⟩ := so_AAPP.1 h
 rw [hS] at g1; injection g1 with g1; subst g1
 rw [den_AST_mk hS hR] at g2; injection g2 with g2; subst g2
 rw [hc.2] at g3; injection g3 with g3; subst g3
 obtain ⟨xs, hx, rfl⟩ := cat_of (den_act1 hS hR k3) g4
 refine so_AAPP.2 ⟨S, R, _, _, Z, hS, hR, hc.1, hx, g5, decide_eq_true ?_⟩
 rw [numOf_n, Int.toNat_natCast, aendZ_pos h0, asZ_pos h0]
 intro h1
 have h2 := aend_back k h1
 have g6 := of_decide_eq_true g6
 rw [numOf_n, numOf_n, Int.toNat_natCast] at g6
 rw [g6 h1]
 have := of_decide_eq_true k4 h2
 show List.map viewA (xs ++ [actD (strOf S) (numOf R) Y]) ++ _ = List.map viewA xs ++ (actZ (strOf S) (numOf R) :: _)
 rw [List.map_append, List.map_singleton, viewA_act this, List.append_assoc]
 rfl
theorem aend_more {s r t u : Tm} {k : Nat} (hf : ∀ R, denT ν r = some R → 0 ≤ numOf R) (hc : Cnt ν t u k) {d : Dat} (h : denT ν (AEND s (AST s r) u) = some d) : denT ν (AEND s r t) = some d := by
 obtain ⟨S, R2, N, hS, hR2, hN, rfl⟩ := den_AEND.1 h
 obtain ⟨S', R, k1, k2, rfl⟩ := den_AST.1 hR2
 rw [hS] at k1; injection k1 with k1; subst k1
 rw [hc.2] at hN; injection hN with hN; subst hN
 refine den_AEND.2 ⟨S, R, _, hS, k2, hc.1, ?_⟩
 rw [numOf_n, numOf_n, numOf_n, Int.toNat_natCast, Int.toNat_natCast, aendZ_pos (hf R k2)]
theorem lemAs_ok (s r n x y : Tm) : LemOk (lemAs s r n x y) := by
 unfold lemAs
 exact lemOk_cons (lemC1_is _) (lemOk_cons (lemC2_is _) (lemOk_cons (lemC3_is _ (by decide)) (lemOk_cons (lemC4_is rfl (by decide)) (lemOk_cons (lemC5_is rfl (by decide)) (lemOk_cons (lemC6_is rfl) lemOk_nil)))))
theorem lok_y {s r y : Tm} (h : IsSo ν (LOK s r y) true) : ∃ Y, denT ν y = some Y := by
 obtain ⟨_, _, Y, _, _, h, _⟩ := so_LOK.1 h
 exact ⟨Y, h⟩
theorem lemDAs_ok (s r n x y z : Tm) : LemD (lemDAs s r n x y z) := by
 unfold lemDAs
 refine lemD_cons (fun ν hs => ?_) (lemD_cons (fun ν hs => ?_) (lemD_cons (fun ν hs => ?_) (lemD_cons (fun ν hs => ?_) lemD_nil)))
 ·obtain ⟨h1, h2, h3, h4, h5, h6, h7, h8, _⟩ := hs
  obtain ⟨k, hc, hk⟩ := cnt_down (by decide) h1 h2
  obtain ⟨xs, hx⟩ := isl_of h4
  obtain ⟨S, hS⟩ := sz_den h6
  obtain ⟨R, hR⟩ := here_den h5
  exact aapp_one hS hR (fine_of hR h3) hc hx h7 (.inl (k0_of hc h8))
 ·obtain ⟨h1, h2, h3, h4, h5, h6, h7, h8, h9, _⟩ := hs
  obtain ⟨k, hc, hk⟩ := cnt_down (by decide) h1 h2
  obtain ⟨xs, hx⟩ := isl_of h4
  obtain ⟨S, hS⟩ := sz_den h6
  obtain ⟨R, hR⟩ := here_den h5
  exact aapp_one hS hR (fine_of hR h3) hc hx h7 (.inr (by have := nofine_of (den_AST_mk hS hR) h9; exact this))
 ·obtain ⟨h1, h2, h3, h3', h4, h5, h6, h7, _⟩ := hs
  obtain ⟨k, hc, hk⟩ := cnt_down (by decide) h1 h2
  obtain ⟨xs, hx⟩ := isl_of h4
  obtain ⟨S, hS⟩ := sz_den h6
  obtain ⟨R, hR⟩ := here_den h5
  obtain ⟨Y, hY⟩ := lok_y h7
  exact leL_more (by decide) hc hk hx (den_act1 hS hR hY) h3 h3'
 ·obtain ⟨h1, h2, h3, h7, h8, _⟩ := hs
  obtain ⟨k, hc, hk⟩ := cnt_down (by decide) h1 h2
  obtain ⟨_, R, _, _, hR, _, _⟩ := so_LOK.1 h7
  exact aapp_more hR (fine_of hR h3) hc h7 h8
theorem teqAs_is (s r n : Tm) : ∀ e ∈ teqAs s r n, TEqIs e := by
 intro e he
 unfold teqAs at he
 simp only [List.mem_append] at he
 rcases he with (he | he) | he
 ·refine base2_is (fun ν hs R hR => ?_) e he
  obtain ⟨x, hx, h⟩ := so_gt0 hs.1
  have h := of_decide_eq_false h
  obtain ⟨S, hS⟩ := sz_den hs.2.1
  refine den_AEND.2 ⟨S, R, _, hS, hR, hx, ?_⟩
  rw [numOf_n, show x.toNat = 0 by omega]
  rfl
 ·refine base2_is (fun ν hs R hR => ?_) e he
  obtain ⟨x, hx, h⟩ := so_gt0 hs.1
  obtain ⟨S, hS⟩ := sz_den hs.2.2.1
  have h2 := nofine_of hR hs.2.1
  refine den_AEND.2 ⟨S, R, _, hS, hR, hx, ?_⟩
  rw [numOf_n, aendZ_fix _ h2]
 ·simp only [List.mem_cons, List.mem_nil_iff, or_false] at he
  subst he
  intro ν hs d hd
  obtain ⟨k, hc, hk⟩ := cnt_down (by decide) hs.1 hs.2.1
  exact aend_more (fun R hR => fine_of hR hs.2.2.1) hc hd
end
end Go.Proofs.YtcjbpaiomcfgnaaGreatDoor
namespace Go.Proofs.YtcjbpaiomcfgnaaGreatDoor
open Go
set_option maxRecDepth 20000
section
variable {ν : Nm}
theorem den_rP_mk {s : Tm} {S : Dat} (h : denT ν s = some S) : ∀ j, denT ν (rP s j) = some (.n (rPZ (strOf S) j))
 | 0 => den_cc
 | j + 1 => den_STEP.2 ⟨S, _, _, h, den_rP_mk h j, den_cc, rfl⟩
theorem den_rP_at {s : Tm} {j : Nat} {S R : Dat} (h : denT ν s = some S) (hr : denT ν (rP s j) = some R) : R = .n (rPZ (strOf S) j) := by
 rw [den_rP_mk h j] at hr
 injection hr with hr
 exact hr.symm
theorem den_PL {s : Tm} {j : Nat} (hj : j ≤ 3) {d : Dat} : denT ν (PL s j) = some d ↔ ∃ S, denT ν s = some S ∧ d = .n (valZ (strOf S) (rPZ (strOf S) j) 16777216) := by
 obtain h | h | h | h : j = 0 ∨ j = 1 ∨ j = 2 ∨ j = 3 := by omega
 all_goals subst h; exact den_T1 rfl
theorem plEq_is (s : Tm) {j : Nat} (hj : j ≤ 3) : TEqIs (plEq s j) := fun ν _ d hd => by
 obtain ⟨x, hx, rfl⟩ := den_conv.1 hd
 obtain ⟨S, R, M, h1, h2, h3, h4⟩ := den_VAL.1 hx
 cases den_cn h3
 injection h4 with h4
 subst h4
 cases den_rP_at h1 h2
 have hr := valZ_rng (strOf S) (rPZ (strOf S) j) 16777216
 refine (den_PL hj).2 ⟨S, h1, ?_⟩
 rw [numOf_n, numOf_n, wr64 (by omega) (by have := hr.2 (by decide); omega)]
theorem teqGet_is (s : Tm) : ∀ e ∈ teqGet s, TEqIs e := by
 intro e he
 simp only [teqGet, List.mem_cons, List.mem_nil_iff, or_false] at he
 rcases he with rfl | rfl | rfl | rfl
 all_goals exact plEq_is s (by decide)
theorem den_rA {s : Tm} {d : Dat} (h : denT ν (rA s) = some d) : ∃ S, denT ν s = some S ∧ d = .n (rAZ (strOf S)) := by
 obtain ⟨S, R, M, h1, h2, h3, rfl⟩ := den_STEP.1 h
 cases den_cn h3
 cases den_rP_at h1 h2
 exact ⟨S, h1, rfl⟩
theorem den_rA_mk {s : Tm} {S : Dat} (h : denT ν s = some S) : denT ν (rA s) = some (.n (rAZ (strOf S))) := den_STEP.2 ⟨S, _, _, h, den_rP_mk h 4, den_cc, rfl⟩
theorem den_nA {s : Tm} {d : Dat} (h : denT ν (nA s) = some d) : ∃ S, denT ν s = some S ∧ d = .n (nAZ (strOf S)) := by
 obtain ⟨S, R, M, h1, h2, h3, rfl⟩ := den_VAL.1 h
 cases den_cn h3
 cases den_rP_at h1 h2
 exact ⟨S, h1, rfl⟩
theorem nAZ_rng (l : List UInt8) : 0 ≤ nAZ l ∧ nAZ l ≤ 4096 := ⟨(valZ_rng ..).1, (valZ_rng ..).2 (by decide)⟩
theorem nA_none {s : Tm} (h : IsSo ν (gt0 (nA s) false).1 false) : ∃ S, denT ν s = some S ∧ nAZ (strOf S) = 0 := by
 obtain ⟨x, hx, h⟩ := so_gt0 h
 obtain ⟨S, h1, h3⟩ := den_nA hx
 injection h3 with h3
 subst h3
 have := nAZ_rng (strOf S)
 have h := of_decide_eq_false h
 exact ⟨S, h1, by omega⟩
theorem nA_some {s : Tm} (h : IsSo ν (gt0 (nA s) true).1 true) : ∃ S, ∃ k : Nat, denT ν s = some S ∧ nAZ (strOf S) = ((k + 1 : Nat) : Int) ∧ Cnt ν (nA s) (sub1 (nA s)) k ∧ (k : Int) + 1 ≤ 4096 := by
 obtain ⟨x, hx, h0⟩ := so_gt0 h
 obtain ⟨S, h1, h3⟩ := den_nA hx
 injection h3 with h3
 have hr := nAZ_rng (strOf S)
 obtain ⟨k, hc, hk⟩ := cnt_down (m := 4096) (by decide) h (so_leqM hx den_cc (by omega))
 have e := den_one hx hc.1
 exact ⟨S, k, h1, by omega, hc, hk⟩
theorem act1_of {s r y : Tm} {d : Dat} (h : denT ν (act1 s r y) = some d) : ∃ q, d = .l [q] := by
 obtain ⟨q, _, h1⟩ := one_of rfl h
 exact ⟨q, h1⟩
theorem lemGet_ok (s y : Tm) : LemOk (lemGet s y) := by
 unfold lemGet
 refine lemOk_cons (lem_of fun ν hs b hb => ?_) (lemOk_cons (lem_of fun ν hs b hb => ?_) (lemOk_cons (lem_of fun ν hs b hb => ?_) lemOk_nil))
 ·obtain ⟨S, k, h1, h3, hc, hk⟩ := nA_some hs.1
  exact so_leqM hc.2 den_cc (by omega)
 ·obtain ⟨d, h1, _⟩ := so_ISL.1 hb
  obtain ⟨q, rfl⟩ := act1_of h1
  exact so_ISL.2 ⟨_, h1, rfl⟩
 ·obtain ⟨S, k, h1, h3, hc, hk⟩ := nA_some hs.1
  obtain ⟨n, hn⟩ := cntL_len hb
  obtain ⟨d, l, h2, _⟩ := len_row hn
  obtain ⟨q, rfl⟩ := act1_of h2
  exact cntL_mk h2 hc.2 (by simp) (by omega) (by simp only [List.length_cons, List.length_nil]; omega)
theorem so_GOOD {s : Tm} {b : Bool} : IsSo ν (GOOD s) b ↔ ∃ S, denT ν s = some S ∧ goodZ (strOf S) = b := so_T1 (f := fun S => goodZ (strOf S)) rfl fun _ => rfl
theorem so_STR {s : Tm} {b : Bool} : IsSo ν (STR s).1 b ↔ ∃ S, denT ν s = some S ∧ strZ S = b := so_T1 (f := strZ) rfl fun _ => rfl
theorem str_l {s : Tm} (h : IsSo ν (STR s).1 true) : ∃ l, denT ν s = some (.s l) := by
 obtain ⟨S, h1, h2⟩ := so_STR.1 h
 cases S <;> simp [strZ] at h2
 exact ⟨_, h1⟩
def IsStop (s r : Tm) (hs : List (Tm × Bool)) : Prop := ∀ ν : Nm, AllSo ν hs → ∀ R, denT ν r = some R → ∃ S, denT ν s = some S ∧ numOf R = scriptEnd (strOf S)
theorem good_not {s : Tm} {S R : Dat} (hS : denT ν s = some S) (he : numOf R = scriptEnd (strOf S)) (h : numOf R < 0) : IsSo ν (GOOD s) false :=
 so_GOOD.2 ⟨S, hS, decide_eq_false (by omega)⟩
theorem more_ev {s r : Tm} {l : List UInt8} {R : Dat} {b : Bool} (hs : denT ν s = some (.s l)) (hr : denT ν r = some R) (hl : (l.length : Int) ≤ 1000000000000000) (h : IsSo ν (moreF s r b).1 b) : decide ((l.length : Int) - atZ (numOf R) > 0) = b := by
 have := ev_gtr.1 (so_ev h)
 have ha := atZ_rng (numOf R)
 have e : nev ν (LEN s) = l.length := by rw [nev_LEN, ev_den hs]; rfl
 rw [nev_sub, e, nev_ATR hr, nev_c, wr64 (by omega) (by omega)] at this
 exact this
theorem sz_str {s : Tm} {l : List UInt8} (hs : denT ν s = some (.s l)) (h : IsSo ν (sz4 s).1 true) : (l.length : Int) ≤ 1000000000000000 := by
 have := sz_of h
 rw [nev_LEN, ev_den hs] at this
 exact this.2
theorem goodL_is {s r : Tm} {hs : List (Tm × Bool)} (h : IsStop s r hs) : LemD (goodL s r hs) := by
 unfold goodL
 refine lemD_cons (fun ν k => ?_) (lemD_cons (fun ν k => ?_) (lemD_cons (fun ν k => ?_) lemD_nil))
 ·obtain ⟨R, hR, h1⟩ := so_OKR.1 k.1
  obtain ⟨S, hS, he⟩ := h ν k.2.2 R hR
  exact good_not hS he (okZ_false.1 h1)
 ·obtain ⟨k1, k2, k3, k4, k5⟩ := k
  obtain ⟨R, hR, h1⟩ := so_OKR.1 k1
  obtain ⟨S, hS, he⟩ := h ν k5 R hR
  obtain ⟨l, hl⟩ := str_l k4
  rw [hS] at hl; injection hl with hl; subst hl
  have h2 := of_decide_eq_true (more_ev hS hR (sz_str hS k3) k2)
  have h3 := okZ_true.1 h1
  have hz := sz_str hS k3
  have h4 : atZ (numOf R) = numOf R := by
   refine at_pos h3 (Int.not_lt.1 fun hc => ?_)
   have : atZ (numOf R) = 4611686018427387904 := by unfold atZ; split <;> omega
   omega
  refine so_GOOD.2 ⟨_, hS, decide_eq_false fun hc => ?_⟩
  have h5 : ((strOf (.s l)).length : Int) = l.length := rfl
  omega
 ·obtain ⟨k1, k2, k3, k4, k5⟩ := k
  obtain ⟨R, hR, h1⟩ := so_OKR.1 k1
  obtain ⟨S, hS, he⟩ := h ν k5 R hR
  obtain ⟨l, hl⟩ := str_l k4
  rw [hS] at hl; injection hl with hl; subst hl
  have h2 := of_decide_eq_false (more_ev hS hR (sz_str hS k3) k2)
  have h3 := okZ_true.1 h1
  have h4 := atZ_le (numOf R) h3
  refine so_GOOD.2 ⟨_, hS, decide_eq_true ?_⟩
  have h5 : ((strOf (.s l)).length : Int) = l.length := rfl
  omega
theorem stop_none {s : Tm} : IsStop s (rA s) [gt0 (nA s) false] := fun ν hs R hR => by
 obtain ⟨S, h1, h3⟩ := nA_none hs.1
 obtain ⟨S', k1, rfl⟩ := den_rA hR
 rw [h1] at k1; injection k1 with k1; subst k1
 refine ⟨S, h1, ?_⟩
 unfold scriptEnd
 rw [h3]
 rfl
theorem scriptEnd_fail {l : List UInt8} {k : Nat} (h : nAZ l = ((k + 1 : Nat) : Int)) (hf : rAZ l < 0) : scriptEnd l = rAZ l := by
 unfold scriptEnd
 rw [aendZ_fix _ hf]
theorem stop_fail {s : Tm} : IsStop s (rA s) [gt0 (nA s) true, (OKR (rA s), false)] := fun ν hs R hR => by
 obtain ⟨S, k, h1, h3, hc, hk⟩ := nA_some hs.1
 have hf := nofine_of hR hs.2.1
 obtain ⟨S', k1, rfl⟩ := den_rA hR
 rw [h1] at k1; injection k1 with k1; subst k1
 exact ⟨S, h1, (scriptEnd_fail h3 hf).symm⟩
theorem stop_more {s t u : Tm} {S R : Dat} {k : Nat} (h1 : denT ν s = some S) (h3 : nAZ (strOf S) = ((k + 1 : Nat) : Int)) (hc : Cnt ν t u k) (hf : IsSo ν (OKR (rA s)) true) (hR : denT ν (AEND s (AST s (rA s)) u) = some R) : numOf R = scriptEnd (strOf S) := by
 obtain ⟨S', R', N, k1, k2, k3, rfl⟩ := den_AEND.1 (aend_more (fun R hR => fine_of hR hf) hc hR)
 rw [h1] at k1; injection k1 with k1; subst k1
 rw [den_rA_mk h1] at k2; injection k2 with k2; subst k2
 rw [hc.1] at k3; injection k3 with k3; subst k3
 unfold scriptEnd
 rw [h3]
 rfl
theorem stop_some {s : Tm} : IsStop s (aEnd s) [gt0 (nA s) true, (OKR (rA s), true)] := fun ν hs R hR => by
 obtain ⟨S, k, h1, h3, hc, hk⟩ := nA_some hs.1
 exact ⟨S, h1, stop_more h1 h3 hc hs.2.1 hR⟩
theorem so_ISACTS {s y : Tm} {b : Bool} : IsSo ν (ISACTS s y) b ↔ ∃ S Y, denT ν s = some S ∧ denT ν y = some Y ∧ isActsZ (strOf S) Y = b := so_T2 (f := fun S Y => isActsZ (strOf S) Y) rfl fun _ _ => rfl
theorem den_none_r {e : Int} {d : Dat} (h : denT ν (.f 14 [.c e]) = some d) : ∃ v, d = .r e.toNat v [] := by
 have : denT ν (.f 14 [.c e]) = some (.r e.toNat (.slice none 0 0) []) := by
  rw [denT_f rfl]
  exact ⟨_, denTs1.2 ⟨_, den_cc, rfl⟩, rfl⟩
 rw [this] at h
 injection h with h
 exact ⟨_, h.symm⟩
theorem acts_none {s : Tm} {e : Int} {S : Dat} (h1 : denT ν s = some S) (h : nAZ (strOf S) = 0) : IsSo ν (ISACTS s (.f 14 [.c e])) true := by
 obtain ⟨d, hd⟩ := den_none_mk (ν := ν) e
 refine so_ISACTS.2 ⟨S, d, h1, hd, decide_eq_true fun _ => ⟨?_, ?_⟩⟩
 ·obtain ⟨v, rfl⟩ := den_none_r hd
  rfl
 unfold scriptActs
 rw [den_none hd, h]
 rfl
theorem acts_one {s yk y : Tm} {k : Nat} {S : Dat} (h1 : denT ν s = some S) (h : nAZ (strOf S) = ((k + 1 : Nat) : Int)) (hf : IsSo ν (OKR (rA s)) true) (hl : IsSo ν (LOK s (rA s) yk) true) (hk : k = 0 ∨ astZ (strOf S) (rAZ (strOf S)) < 0) (hz : IsSo ν (frzF y (act1 s (rA s) yk)).1 (frzF y (act1 s (rA s) yk)).2) : IsSo ν (ISACTS s y) true := by
 have hR := den_rA_mk h1
 have h0 := fine_of hR hf
 rw [numOf_n] at h0
 obtain ⟨S', R', Y, k1, k2, k3, k4⟩ := so_LOK.1 hl
 rw [h1] at k1; injection k1 with k1; subst k1
 rw [hR] at k2; injection k2 with k2; subst k2
 rw [numOf_n] at k4
 obtain ⟨e, v, xs, hy, hx⟩ := frz_of hz
 rw [den_act1 h1 hR k3] at hx
 injection hx with hx
 injection hx with hx
 subst hx
 refine so_ISACTS.2 ⟨S, _, h1, hy, decide_eq_true fun hg => ⟨rfl, ?_⟩⟩
 have hg : 0 ≤ scriptEnd (strOf S) := (of_decide_eq_true hg).1
 unfold scriptEnd at hg
 unfold scriptActs
 rw [h, Int.toNat_natCast] at hg ⊢
 rw [aendZ_pos h0] at hg
 rw [asZ_pos h0]
 have h2 := aend_back k hg
 rcases hk with rfl | hk
 ·have := of_decide_eq_true k4 h2
  show [viewA (actD (strOf S) (rAZ (strOf S)) Y)] = [actZ (strOf S) (rAZ (strOf S))]
  rw [viewA_act this]
 ·omega
theorem acts_more {s yk z y t u : Tm} {k : Nat} {S : Dat} (h1 : denT ν s = some S) (hc : Cnt ν t u k) (h : nAZ (strOf S) = ((k + 1 : Nat) : Int)) (hf : IsSo ν (OKR (rA s)) true) (hl : IsSo ν (LOK s (rA s) yk) true) (ha : IsSo ν (AAPP s (AST s (rA s)) u (act1 s (rA s) yk) z) true) (hz : IsSo ν (frzF y z).1 (frzF y z).2) : IsSo ν (ISACTS s y) true := by
 have hR := den_rA_mk h1
 have h0 := fine_of hR hf
 rw [numOf_n] at h0
 obtain ⟨S', R', Y, k1, k2, k3, k4⟩ := so_LOK.1 hl
 rw [h1] at k1; injection k1 with k1; subst k1
 rw [hR] at k2; injection k2 with k2; subst k2
 rw [numOf_n] at k4
 obtain ⟨e, v, xs, hy, hx⟩ := frz_of hz
 obtain ⟨S', R2, N, X, Z, g1, g2, g3, g4, g5, g6⟩ := so_AAPP.1 ha
 rw [h1] at g1; injection g1 with g1; subst g1
 rw [den_AST_mk h1 hR] at g2; injection g2 with g2; subst g2
 rw [hc.2] at g3; injection g3 with g3; subst g3
 rw [den_act1 h1 hR k3] at g4; injection g4 with g4; subst g4
 rw [hx] at g5; injection g5 with g5; subst g5
 have g6 := of_decide_eq_true g6
 rw [numOf_n, numOf_n, numOf_n, Int.toNat_natCast] at g6
 refine so_ISACTS.2 ⟨S, _, h1, hy, decide_eq_true fun hg => ⟨rfl, ?_⟩⟩
 have hg : 0 ≤ scriptEnd (strOf S) := (of_decide_eq_true hg).1
 unfold scriptEnd at hg
 unfold scriptActs
 rw [h, Int.toNat_natCast] at hg ⊢
 rw [aendZ_pos h0] at hg
 rw [asZ_pos h0]
 have h2 := aend_back k hg
 have := of_decide_eq_true k4 h2
 have e1 := g6 hg
 show List.map viewA xs = _
 rw [show List.map viewA xs = _ from e1]
 show [viewA (actD (strOf S) (rAZ (strOf S)) Y)] ++ _ = _
 rw [viewA_act this]
 rfl
theorem lemIsN_ok (s : Tm) (e : Int) (yk y z w : Tm) : LemD [isN0 s e, isN1 s yk y [gt0 (sub1 (nA s)) false], isN1 s yk y [gt0 (sub1 (nA s)) true, (OKR (AST s (rA s)), false)], isN2 s yk z w] := by
 refine lemD_cons (fun ν hs => ?_) (lemD_cons (fun ν hs => ?_) (lemD_cons (fun ν hs => ?_) (lemD_cons (fun ν hs => ?_) lemD_nil)))
 ·obtain ⟨S, h1, h3⟩ := nA_none hs.1
  exact acts_none h1 h3
 ·obtain ⟨g1, g2, g3, g4, g5, g6, _⟩ := hs
  obtain ⟨S, k, h1, h3, hc, hk⟩ := nA_some g1
  exact acts_one h1 h3 g2 g4 (.inl (k0_of hc g6)) g5
 ·obtain ⟨g1, g2, g3, g4, g5, g6, g7, _⟩ := hs
  obtain ⟨S, k, h1, h3, hc, hk⟩ := nA_some g1
  refine acts_one h1 h3 g2 g4 (.inr ?_) g5
  have := nofine_of (den_AST_mk h1 (den_rA_mk h1)) g7
  rw [numOf_n, numOf_n] at this
  exact this
 ·obtain ⟨g1, g2, g3, g4, g5, g6, _⟩ := hs
  obtain ⟨S, k, h1, h3, hc, hk⟩ := nA_some g1
  exact acts_more h1 hc h3 g2 g4 g5 g6
end
end Go.Proofs.YtcjbpaiomcfgnaaGreatDoor
namespace Go.Proofs.YtcjbpaiomcfgnaaGreatDoor
open Go
set_option maxRecDepth 20000
section
variable {ν : Nm}
theorem rng_app {a : List (Tm × Bool)} {c i : Tm} (h : AllSo ν (a ++ rng2 c i)) : AllSo ν a ∧ AllSo ν (rng2 c i) := allSo_append.1 h
theorem cnt_upm {c i : Tm} {m : Int} (h1 : IsSo ν (ltU i c true).1 true) (h2 : IsSo ν (leN c m).1 true) (h3 : AllSo ν (rng2 c i)) : ∃ k : Nat, Cnt ν (dn c i) (dn c (addU i)) k ∧ (k : Int) + 1 ≤ m := by
 obtain ⟨k, x, y, hc, hx, hy, a1, a2, a3, a4⟩ := cnt_up h1 h3
 have h2 := leN_of h2
 rw [nev_den hx] at h2
 exact ⟨k, hc, by omega⟩
theorem lemUp_ok {s r c i x e t : Tm} (he : e = .f 11 [t]) {m : Int} (hm : m ≤ 100000) : LemOk (lemUp s r c i x e m) := by
 unfold lemUp
 refine lemOk_cons (lem_of fun ν hs b hb => ?_) (lemOk_cons (lem_ev fun ν hs => ev_lssT ?_) (lemOk_cons (lem_of fun ν hs b hb => ?_) (lemOk_cons (lem_of fun ν hs b hb => ?_) (lemOk_cons (lem_of fun ν hs b hb => ?_) (lemOk_cons (lem_of fun ν hs b hb => ?_) lemOk_nil)))))
 ·obtain ⟨⟨h1, h2, _⟩, h3⟩ := rng_app hs
  obtain ⟨k, hc, hk⟩ := cnt_upm h1 h2 h3
  exact so_leqM den_cc hc.2 (by omega)
 ·obtain ⟨⟨h1, h2, h4, _⟩, h3⟩ := rng_app hs
  obtain ⟨k, hc, hk⟩ := cnt_upm h1 h2 h3
  have h4 := of_decide_eq_true (ev_leq.1 (so_ev h4))
  rw [nev_den hc.1] at h4
  rw [nev_den hc.2]
  omega
 ·obtain ⟨⟨h1, h2, _⟩, h3⟩ := rng_app hs
  obtain ⟨k, x, y, hc, hx, hy, a1, a2, a3, a4⟩ := cnt_up h1 h3
  exact so_leqM a4 hx (by omega)
 ·obtain ⟨⟨h1, h2, h4, _⟩, h3⟩ := rng_app hs
  obtain ⟨k, hc, hk⟩ := cnt_upm h1 h2 h3
  obtain ⟨z, hz⟩ := cntL_len hb
  obtain ⟨xs, q, hx, hq⟩ := len_of he hz
  exact cnt_more hc (by omega) hx hq h4
 ·obtain ⟨⟨h1, h2, h4, h5, _⟩, h3⟩ := rng_app hs
  obtain ⟨k, hc, hk⟩ := cnt_upm h1 h2 h3
  obtain ⟨z, hz⟩ := leL_len hb
  obtain ⟨xs, q, hx, hq⟩ := len_of he hz
  exact leL_more hm hc hk hx hq h4 h5
 ·obtain ⟨⟨h1, h2, _⟩, h3⟩ := rng_app hs
  obtain ⟨x, y, hx, hy, a1, a2, a3, a4⟩ := rng2_of h3
  have h1 := of_decide_eq_true (ev_leq.1 (so_ev h1))
  rw [nev_den hx, nev_den hy] at h1
  refine so_leqM (y := x - y) den_cc (den_bin.2 ⟨x, y, hx, hy, ?_⟩) (by omega)
  show some (Dat.n (IntKind.u64.wrap (x - y))) = _
  rw [wu64 (by omega) (by omega)]
theorem cnt_end {c i : Tm} (h1 : IsSo ν (ltU i c false).1 false) (h2 : IsSo ν (leU i c).1 true) (h3 : AllSo ν (rng2 c i)) : denT ν (dn c i) = some (.n 0) := by
 obtain ⟨x, y, hx, hy, a1, a2, a3, a4⟩ := rng2_of h3
 have h1 := of_decide_eq_false (so_ltU hx hy h1)
 have h2 := of_decide_eq_true (ev_leq.1 (so_ev h2))
 rw [nev_den hx, nev_den hy] at h2
 refine den_bin.2 ⟨x, y, hx, hy, ?_⟩
 show some (Dat.n (IntKind.u64.wrap (x - y))) = _
 rw [wu64 (by omega) (by omega)]
 congr 2
 omega
theorem dstZ_fix {l : List UInt8} {ρ : Int} (h : ρ < 0) : dstZ l ρ = ρ := by
 unfold dstZ
 rw [(step_neg h).1, (step_neg h).1]
theorem lstZ_fix {l : List UInt8} : ∀ (n : Nat) {ρ : Int}, ρ < 0 → lstZ l n ρ = ρ
 | 0, _, _ => rfl
 | n + 1, ρ, h => by
  show lstZ l n (dstZ l (dstZ l ρ)) = ρ
  rw [dstZ_fix h, dstZ_fix h, lstZ_fix n h]
theorem teqUpL_is (s r c i : Tm) : ∀ e ∈ teqUp (LST s) dst2 s r c i, TEqIs e := by
 intro e he
 unfold teqUp at he
 simp only [List.mem_append] at he
 rcases he with (he | he) | he
 ·refine base2_is (fun ν hs R hR => ?_) e he
  obtain ⟨h1, h2, h3, h4⟩ := hs
  obtain ⟨S, hS⟩ := sz_den h3
  exact den_LST.2 ⟨S, R, _, hS, hR, cnt_end h1 h2 h4, rfl⟩
 ·refine base2_is (fun ν hs R hR => ?_) e he
  obtain ⟨h1, h2, h3, h4⟩ := hs
  obtain ⟨S, hS⟩ := sz_den h3
  obtain ⟨k, x, y, hc, _⟩ := cnt_up h1 h4
  refine den_LST.2 ⟨S, R, _, hS, hR, hc.1, ?_⟩
  rw [lstZ_fix _ (nofine_of hR h2)]
 ·simp only [List.mem_cons, List.mem_nil_iff, or_false] at he
  subst he
  intro ν hs d hd
  obtain ⟨h1, h2, h3⟩ := hs
  obtain ⟨k, x, y, hc, _⟩ := cnt_up h1 h3
  exact lst_more hc hd
theorem teqUpA_is (s r c i : Tm) : ∀ e ∈ teqUp (AEND s) AST s r c i, TEqIs e := by
 intro e he
 unfold teqUp at he
 simp only [List.mem_append] at he
 rcases he with (he | he) | he
 ·refine base2_is (fun ν hs R hR => ?_) e he
  obtain ⟨h1, h2, h3, h4⟩ := hs
  obtain ⟨S, hS⟩ := sz_den h3
  exact den_AEND.2 ⟨S, R, _, hS, hR, cnt_end h1 h2 h4, rfl⟩
 ·refine base2_is (fun ν hs R hR => ?_) e he
  obtain ⟨h1, h2, h3, h4⟩ := hs
  obtain ⟨S, hS⟩ := sz_den h3
  obtain ⟨k, x, y, hc, _⟩ := cnt_up h1 h4
  refine den_AEND.2 ⟨S, R, _, hS, hR, hc.1, ?_⟩
  rw [aendZ_fix _ (nofine_of hR h2)]
 ·simp only [List.mem_cons, List.mem_nil_iff, or_false] at he
  subst he
  intro ν hs d hd
  obtain ⟨h1, h2, h3⟩ := hs
  obtain ⟨k, x, y, hc, _⟩ := cnt_up h1 h3
  exact aend_more (fun R hR => fine_of hR h2) hc hd
theorem hsUp_of {s r c i x : Tm} {m : Int} (h : AllSo ν (hsUp s r c i x m)) : ∃ (k : Nat) (xs : List Dat) (S R : Dat), Cnt ν (dn c i) (dn c (addU i)) k ∧ (k : Int) + 1 ≤ m ∧ denT ν x = some (.l xs) ∧ denT ν s = some S ∧ denT ν r = some R ∧ 0 ≤ numOf R ∧ ∀ b, IsSo ν (ltU (addU i) c b).1 b → b = false → k = 0 := by
 unfold hsUp at h
 obtain ⟨⟨h1, h2, h3, h4, h5, h6, _⟩, h7⟩ := rng_app h
 obtain ⟨k, x', y, hc, hx', hy, a1, a2, a3, a4⟩ := cnt_up h1 h7
 have h2 := leN_of h2
 rw [nev_den hx'] at h2
 obtain ⟨xs, hx⟩ := isl_of h4
 obtain ⟨S, hS⟩ := sz_den h6
 obtain ⟨R, hR⟩ := here_den h5
 refine ⟨k, xs, S, R, hc, by omega, hx, hS, hR, fine_of hR h3, fun b hb e => ?_⟩
 subst e
 have := of_decide_eq_false (so_ltU hx' a4 hb)
 omega
theorem lemDUpL_ok (s r c i x y : Tm) : LemD (lemDUpL s r c i x y) := by
 unfold lemDUpL
 refine lemD_cons (fun ν hs => ?_) (lemD_cons (fun ν hs => ?_) (lemD_cons (fun ν hs => ?_) (lemD_cons (fun ν hs => ?_) lemD_nil)))
 ·obtain ⟨k, xs, S, R, hc, hk, hx, hS, hR, h0, h1⟩ := hsUp_of hs.2
  exact lapp_one hS hR hc hx (.inl (h1 _ hs.1 rfl))
 ·obtain ⟨k, xs, S, R, hc, hk, hx, hS, hR, h0, h1⟩ := hsUp_of hs.2.2
  have := nofine_of (den_dst2 hS hR) hs.2.1
  rw [numOf_n] at this
  exact lapp_one hS hR hc hx (.inr this)
 ·obtain ⟨k, xs, S, R, hc, hk, hx, hS, hR, h0, h1⟩ := hsUp_of hs.2.2
  exact leL_more (by decide) hc hk hx (den_line1 hS hR) hs.1 hs.2.1
 ·obtain ⟨k, xs, S, R, hc, hk, hx, hS, hR, h0, h1⟩ := hsUp_of hs.2
  exact lapp_more hc hs.1
theorem N0_gt {s r : Tm} {b : Bool} (h : IsSo ν (N0 s r b).1 b) : IsSo ν (gt0 (nL s r) b).1 b := by
 obtain ⟨x, y, h1, h2, h3⟩ := so_lss h
 cases den_c h1
 exact so_cmp_mk (f := fun x y => decide (x > y)) (fun _ _ => rfl) h2 den_cc h3
theorem cnt_1 {n : Tm} {k : Nat} (h : Cnt ν n (sub1 n) k) (hk : (k : Int) + 1 ≤ 1000000) : Cnt ν n (dn n (.c 1)) k := ⟨h.1, by
 refine den_bin.2 ⟨_, 1, h.1, den_cc, ?_⟩
 show some (Dat.n (IntKind.u64.wrap (((k + 1 : Nat) : Int) - 1))) = _
 rw [wu64 (by omega) (by omega)]
 congr 2
 omega⟩
theorem end_r_fail {s r : Tm} : IsEnd s r (rL s r) [N0 s r true, (OKR (rL s r), false)] := fun ν hs d hd => by
 obtain ⟨S, R, k, h1, h2, h3, hc, hk⟩ := nL_some (N0_gt hs.1)
 have hf := nofine_of hd hs.2.1
 obtain ⟨S', R', k1, k2, rfl⟩ := den_rL hd
 rw [h1] at k1; injection k1 with k1; subst k1
 rw [h2] at k2; injection k2 with k2; subst k2
 refine ⟨S, R, h1, h2, ?_⟩
 rw [numOf_n] at hf
 unfold eLZ
 rw [lstZ_fix _ hf]
theorem end_r_none {s r : Tm} : IsEnd s r (rL s r) [N0 s r false] := fun ν hs d hd => end_none ν ⟨N0_gt hs.1, trivial⟩ d hd
theorem end_r_some {s r : Tm} : IsEnd s r (LST s (dst2 s (rL s r)) (dn (nL s r) (.c 1))) [N0 s r true, fine (rL s r)] := fun ν hs d hd => by
 obtain ⟨S, R, k, h1, h2, h3, hc, hk⟩ := nL_some (N0_gt hs.1)
 have hc := cnt_1 hc (by omega)
 obtain ⟨S', R', N, k1, k2, k3, rfl⟩ := den_LST.1 (lst_more hc hd)
 rw [h1] at k1; injection k1 with k1; subst k1
 rw [den_rL_mk h1 h2] at k2; injection k2 with k2; subst k2
 rw [hc.1] at k3; injection k3 with k3; subst k3
 refine ⟨S, R, h1, h2, ?_⟩
 unfold eLZ
 rw [h3]
 rfl
theorem teqActR_is (s r : Tm) : ∀ e ∈ teqActR s r, TEqIs e := by
 intro e he
 unfold teqActR at he
 simp only [List.mem_append] at he
 rcases he with (he | he) | he
 ·exact endEqs_is end_r_none e he
 ·exact endEqs_is end_r_fail e he
 ·exact endEqs_is end_r_some e he
theorem nL_rngT {s r : Tm} {n : Int} (h : denT ν (nL s r) = some (.n n)) : 0 ≤ n ∧ n ≤ 16 := by
 obtain ⟨S, R, _, _, h3⟩ := den_nL h
 injection h3 with h3
 subst h3
 exact nLZ_rng _ _
theorem nA_rngT {s : Tm} {n : Int} (h : denT ν (nA s) = some (.n n)) : 0 ≤ n ∧ n ≤ 4096 := by
 obtain ⟨S, _, h3⟩ := den_nA h
 injection h3 with h3
 subst h3
 exact nAZ_rng _
theorem lemFirst_ok {n x t : Tm} (hx : x = .f 11 [t]) {m : Int} (hm : m ≤ 100000) (hn : ∀ ν : Nm, ∀ z, denT ν n = some (.n z) → 0 ≤ z ∧ z ≤ m) : LemOk (lemFirst n x m) := by
 unfold lemFirst
 refine lemOk_cons (lem_of fun ν hs b hb => ?_) (lemOk_cons (lem_of fun ν hs b hb => ?_) (lemOk_cons (lem_of fun ν hs b hb => ?_) lemOk_nil))
 ·obtain ⟨y, z, h1, h2, _⟩ := so_leq hb
  cases den_c h2
  exact so_leqM h1 den_cc (hn ν y h1).2
 ·obtain ⟨y, z, h1, h2, h3⟩ := so_lss hs.1
  cases den_c h1
  have h3 := of_decide_eq_true h3
  exact so_leqM den_cc h2 (by omega)
 ·obtain ⟨y, z, h1, h2, h3⟩ := so_lss hs.1
  cases den_c h1
  have h3 := of_decide_eq_true h3
  have h4 := hn ν z h2
  obtain ⟨l, hl⟩ := cntL_len hb
  obtain ⟨d, l', h5, _⟩ := len_row hl
  obtain ⟨q, _, rfl⟩ := one_of hx h5
  obtain ⟨k, rfl⟩ : ∃ k : Nat, z = ((k + 1 : Nat) : Int) := ⟨z.toNat - 1, by omega⟩
  have hd : denT ν (dn n (.c 1)) = some (.n (k : Int)) := by
   refine den_bin.2 ⟨_, 1, h2, den_cc, ?_⟩
   show some (Dat.n (IntKind.u64.wrap (((k + 1 : Nat) : Int) - 1))) = _
   rw [wu64 (by omega) (by omega)]
   congr 2
   omega
  exact cntL_mk h5 hd (by simp) (by omega) (by simp only [List.length_cons, List.length_nil]; omega)
theorem k0_up {n : Tm} {k : Nat} (hc : Cnt ν n (dn n (.c 1)) k) (h : IsSo ν (ltU (.c 1) n false).1 false) : k = 0 := by
 obtain ⟨x, y, h1, h2, h3⟩ := so_lss h
 cases den_c h1
 cases den_one h2 hc.1
 have h3 := of_decide_eq_false h3
 omega
theorem lemDActR_ok (s r : Tm) (e : Int) (y1 x2 y2 : Tm) : LemD (lemDActR s r e y1 x2 y2) := by
 unfold lemDActR
 refine lemD_cons (fun ν hs => ?_) (lemD_cons (fun ν hs => ?_) (lemD_cons (fun ν hs => ?_) (lemD_cons (fun ν hs => ?_) (lemD_cons (fun ν hs => ?_) lemD_nil))))
 ·obtain ⟨S, R, h1, h2, h3⟩ := nL_none (N0_gt hs.1)
  exact lok_none h1 h2 h3
 ·obtain ⟨S, R, k, h1, h2, h3, hc, hk⟩ := nL_some (N0_gt hs.1)
  have hf := nofine_of (den_rL_mk h1 h2) hs.2.1
  rw [numOf_n] at hf
  obtain ⟨d, hd⟩ := den_none_mk (ν := ν) e
  refine so_LOK.2 ⟨S, R, d, h1, h2, hd, decide_eq_true fun h0 => ?_⟩
  exfalso
  have h0 : 0 ≤ dstZ (strOf S) (eLZ (strOf S) (numOf R)) := h0
  have : eLZ (strOf S) (numOf R) < 0 := by
   unfold eLZ
   exact lstZ_neg _ hf
  have := dstZ_neg (l := strOf S) this
  omega
 ·obtain ⟨g1, g2, g3, g4, _⟩ := hs
  obtain ⟨S, R, k, h1, h2, h3, hc, hk⟩ := nL_some (N0_gt g3)
  exact lok_one h1 h2 h3 (.inl (k0_up (cnt_1 hc (by omega)) g1)) g2
 ·obtain ⟨g1, g2, g3, g4, g5, _⟩ := hs
  obtain ⟨S, R, k, h1, h2, h3, hc, hk⟩ := nL_some (N0_gt g4)
  have hf := nofine_of (den_dst2 h1 (den_rL_mk h1 h2)) g2
  rw [numOf_n, numOf_n] at hf
  exact lok_one h1 h2 h3 (.inr hf) g3
 ·obtain ⟨g1, g2, g3, g4, _⟩ := hs
  obtain ⟨S, R, k, h1, h2, h3, hc, hk⟩ := nL_some (N0_gt g3)
  exact lok_more h1 h2 (cnt_1 hc (by omega)) h3 g1 g2
theorem lemDUpA_ok (s r c i x y z : Tm) : LemD (lemDUpA s r c i x y z) := by
 unfold lemDUpA
 refine lemD_cons (fun ν hs => ?_) (lemD_cons (fun ν hs => ?_) (lemD_cons (fun ν hs => ?_) (lemD_cons (fun ν hs => ?_) lemD_nil)))
 ·obtain ⟨k, xs, S, R, hc, hk, hx, hS, hR, h0, h1⟩ := hsUp_of hs.2.2
  exact aapp_one hS hR h0 hc hx hs.2.1 (.inl (h1 _ hs.1 rfl))
 ·obtain ⟨k, xs, S, R, hc, hk, hx, hS, hR, h0, h1⟩ := hsUp_of hs.2.2.2
  have := nofine_of (den_AST_mk hS hR) hs.2.1
  rw [numOf_n] at this
  exact aapp_one hS hR h0 hc hx hs.2.2.1 (.inr this)
 ·obtain ⟨k, xs, S, R, hc, hk, hx, hS, hR, h0, h1⟩ := hsUp_of hs.2.2.2
  obtain ⟨Y, hY⟩ := lok_y hs.2.2.1
  exact leL_more (by decide) hc hk hx (den_act1 hS hR hY) hs.1 hs.2.1
 ·obtain ⟨k, xs, S, R, hc, hk, hx, hS, hR, h0, h1⟩ := hsUp_of hs.2.2
  exact aapp_more hR h0 hc hs.2.1 hs.1
theorem M0_gt {s : Tm} {b : Bool} (h : IsSo ν (M0 s b).1 b) : IsSo ν (gt0 (nA s) b).1 b := by
 obtain ⟨x, y, h1, h2, h3⟩ := so_lss h
 cases den_c h1
 exact so_cmp_mk (f := fun x y => decide (x > y)) (fun _ _ => rfl) h2 den_cc h3
theorem left_ev {s r : Tm} {S R : Dat} {b : Bool} (hs : denT ν s = some S) (hr : denT ν r = some R) (h0 : 0 ≤ numOf R) (h : IsSo ν (leftF s r b).1 b) : decide (((strOf S).length : Int) > numOf R) = b := by
 have := ev_gtr.1 (so_ev h)
 have e : nev ν (LEN (RB s r)) = (((strOf S).drop (numOf R).toNat).length : Int) := by
  rw [nev_LEN, ev_den (den_RB.2 ⟨S, R, hs, hr, rfl⟩)]
  unfold rbZ
  rw [if_neg (by omega)]
  rfl
 rw [e, nev_c, List.length_drop] at this
 rw [← this]
 exact decide_eq_decide.2 (by omega)
theorem goodR_is {s r : Tm} {hs : List (Tm × Bool)} (h : IsStop s r hs) : LemD (goodR s r hs) := by
 unfold goodR
 refine lemD_cons (fun ν k => ?_) (lemD_cons (fun ν k => ?_) (lemD_cons (fun ν k => ?_) lemD_nil))
 ·obtain ⟨R, hR, h1⟩ := so_OKR.1 k.1
  obtain ⟨S, hS, he⟩ := h ν k.2.2 R hR
  exact good_not hS he (okZ_false.1 h1)
 ·obtain ⟨k1, k2, k3, k5⟩ := k
  obtain ⟨R, hR, h1⟩ := so_OKR.1 k1
  obtain ⟨S, hS, he⟩ := h ν k5 R hR
  have h3 := okZ_true.1 h1
  have h2 := of_decide_eq_true (left_ev hS hR h3 k2)
  exact so_GOOD.2 ⟨_, hS, decide_eq_false fun hc => by omega⟩
 ·obtain ⟨k1, k2, k3, k5⟩ := k
  obtain ⟨R, hR, h1⟩ := so_OKR.1 k1
  obtain ⟨S, hS, he⟩ := h ν k5 R hR
  have h3 := okZ_true.1 h1
  have h2 := of_decide_eq_false (left_ev hS hR h3 k2)
  exact so_GOOD.2 ⟨_, hS, decide_eq_true (by omega)⟩
theorem stop_r_none {s : Tm} : IsStop s (rA s) [M0 s false] := fun ν hs R hR => stop_none ν ⟨M0_gt hs.1, trivial⟩ R hR
theorem stop_r_fail {s : Tm} : IsStop s (rA s) [M0 s true, (OKR (rA s), false)] := fun ν hs R hR => stop_fail ν ⟨M0_gt hs.1, hs.2⟩ R hR
theorem stop_r_some {s : Tm} : IsStop s (aEndR s) [M0 s true, fine (rA s)] := fun ν hs R hR => by
 obtain ⟨S, k, h1, h3, hc, hk⟩ := nA_some (M0_gt hs.1)
 exact ⟨S, h1, stop_more h1 h3 (cnt_1 hc (by omega)) hs.2.1 hR⟩
theorem lemD_append {l m : List Lem} (h : LemD l) (k : LemD m) : LemD (l ++ m) := fun x hx => by
 rcases List.mem_append.1 hx with hx | hx
 ·exact h x hx
 ·exact k x hx
theorem lemDGetR_ok (s : Tm) (e : Int) (yk y1 x2 y2 : Tm) : LemD (lemDGetR s e yk y1 x2 y2) := by
 unfold lemDGetR
 refine lemD_append (lemD_append (lemD_append (goodR_is stop_r_none) (goodR_is stop_r_fail)) (goodR_is stop_r_some)) ?_
 refine lemD_cons (fun ν hs => ?_) (lemD_cons (fun ν hs => ?_) (lemD_cons (fun ν hs => ?_) (lemD_cons (fun ν hs => ?_) lemD_nil)))
 ·obtain ⟨S, h1, h3⟩ := nA_none (M0_gt hs.2.1)
  exact acts_none h1 h3
 ·obtain ⟨_, g1, g2, g3, g4, g5, _⟩ := hs
  obtain ⟨S, k, h1, h3, hc, hk⟩ := nA_some (M0_gt g3)
  exact acts_one h1 h3 g4 g5 (.inl (k0_up (cnt_1 hc (by omega)) g1)) g2
 ·obtain ⟨_, g1, g2, g3, g4, g5, g6, _⟩ := hs
  obtain ⟨S, k, h1, h3, hc, hk⟩ := nA_some (M0_gt g4)
  refine acts_one h1 h3 g5 g6 (.inr ?_) g3
  have := nofine_of (den_AST_mk h1 (den_rA_mk h1)) g2
  rw [numOf_n, numOf_n] at this
  exact this
 ·obtain ⟨_, g1, g2, g3, g4, g5, _⟩ := hs
  obtain ⟨S, k, h1, h3, hc, hk⟩ := nA_some (M0_gt g3)
  exact acts_more h1 (cnt_1 hc (by omega)) h3 g4 g5 g1 g2
end
end Go.Proofs.YtcjbpaiomcfgnaaGreatDoor
