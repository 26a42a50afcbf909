/- ScriptSame: terms; what is known of them. No program in sight. -/
import Derived.Test.YtcjbpaiomcfgnaaGreatDoorGf
set_option linter.unusedVariables false
set_option linter.unusedSimpArgs false
namespace Go.Proofs.YtcjbpaiomcfgnaaGreatDoor
open Go
def NUM (n : Tm) : Tm := .f 100 [n]
def numT (n : Tm) : Nat → Tm → Tm
 | 0, a => a
 | k + 1, a => numT n k (CAT a (BYTES [.conv .u8 (SHR n (8 * k))]))
def numHs (n : Tm) (k : Nat) : List (Tm × Bool) :=
 (.bin .geq .u64 n (.c 0), true) :: (.bin .leq .u64 n (.c IntKind.u64.max), true) :: (.bin .lss .u64 n (.c 128), false) :: ((if k < 8 then [(.bin .gtr .u64 (SHR n (8 * k)) (.c 0), false)] else []) ++ (if 2 ≤ k then [(.bin .gtr .u64 (SHR n (8 * (k - 1))) (.c 0), true)] else []))
def preT (p : Option Tm) (t : Tm) : Tm := match p with | none => t | some p => CAT p t
def numEq (p : Option Tm) (n : Tm) (k : Nat) : TEq := ⟨numHs n k, preT p (NUM n), numT n k (preT p (BYTES [.c (128 + k)]))⟩
def numEq0 (p : Option Tm) (n : Tm) : TEq := ⟨[(.bin .geq .u64 n (.c 0), true), (.bin .lss .u64 n (.c 128), true)], preT p (NUM n), preT p (BYTES [.conv .u8 n])⟩
def numEqs (p : Option Tm) (n : Tm) : List TEq := [numEq0 p n, numEq p n 1, numEq p n 2, numEq p n 3, numEq p n 4, numEq p n 5, numEq p n 6, numEq p n 7, numEq p n 8]
def teqNum : List TEq := numEqs none (.x 1) ++ numEqs (some (.x 0)) (.x 1)
def small (t : Tm) : Tm × Bool := (.bin .leq .i64 (LEN t) (.c 900000), true)
def ks : List IntKind := [.u8, .u8, .i64, .u8, .u32, .u8, .u32, .u8, .u32, .u32, .u8, .u8, .u64, .u8, .u32, .u8, .u32, .u32, .u32, .u32]
def lc (t i : Tm) : Nat → Tm
 | 0 => .conv .u8 (CELL t i 0)
 | 1 => .conv .u32 (CELL t i 1)
 | 2 => .conv .u8 (CELL t i 2)
 | _ => .conv .u32 (CELL t i 3)
def EL (a b i : Tm) : Tm := AND (AND (.bin .eql .u8 (lc a i 0) (lc b i 0)) (.bin .eql .u32 (lc a i 1) (lc b i 1))) (AND (.bin .eql .u8 (lc a i 2) (lc b i 2)) (.bin .eql .u32 (lc a i 3) (lc b i 3)))
def LINES (t i : Tm) : Tm := .f 101 [t, i]
def PREF (a b i : Tm) : Tm := .f 104 [a, b, i]
def SAMEL (a b : Tm) : Tm := .f 105 [a, b]
def SAMEQ (l : List Tm) : Tm := .f 106 l
def SAMEA (l : List Tm) : Tm := .f 103 l
def ACT (l : List Tm) : Tm := .f 102 l
def neLen (a b : Tm) : Tm × Bool := (.bin .neq .i64 (LEN a) (LEN b), false)
def lemP0 (a b : Tm) : Lem := ⟨[isRow a, isRow b], PREF a b (.c 0), true⟩
def lemP1 (a b i : Tm) : Lem := ⟨[(PREF a b i, true), (EL a b i, true), ltLen i a true, neLen a b, ge0 i, le300 a], PREF a b (add1 i), true⟩
def lemPy (a b i : Tm) : Lem := ⟨[(PREF a b i, true), ltLen i a false, leLen i a, neLen a b, ge0 i, le300 a], SAMEL a b, true⟩
def lemPn (a b i : Tm) : Lem := ⟨[(EL a b i, false), ltLen i a true, neLen a b, ge0 i, le300 a], SAMEL a b, false⟩
def kindsR : List IntKind := ks.drop 3
def reqT (b : Nat) : List Tm := varsT 18 (b + 3)
def actT (b : Nat) : List Tm := varsT 23 b
def rowHs (t : Tm) : List (Tm × Bool) := [ge0 (LEN t), le300 t, isRow t]
def reqHs (b : Nat) : List (Tm × Bool) := rngL kindsR (b + 3) ++ rowHs (.x (b + 20))
def actHs (b : Nat) : List (Tm × Bool) := rngL ks b ++ rngL [.u8, .u32] (b + 21) ++ rowHs (.x (b + 20))
def lemLt (a b i : Tm) : Lem := ⟨[ltLen i a true, neLen a b], .bin .lss .i64 i (LEN b), true⟩
def lemAsk : List Lem := [lemLt (.x 20) (.x 50) (.x 60), lemM1 (.x 20) (.x 60), lemM2 (.x 20) (.x 60), lemM0 (.x 20) (.x 60), lemI (.x 20) (.x 60), lemP0 (.x 20) (.x 50), lemP1 (.x 20) (.x 50) (.x 60), lemPy (.x 20) (.x 50) (.x 60), lemPn (.x 20) (.x 50) (.x 60)]
def reqDef (b : Nat) : List (Tm × Bool) := isRow (.x (b + 20)) :: defL kindsR (b + 3)
def eqD (i j : Nat) : Tm := AND (.bin .eql .u8 (.x i) (.x j)) (.bin .eql .u32 (.x (i + 1)) (.x (j + 1)))
def reqParts : List (Nat × Option IntKind) := [(3, some .u8), (4, some .u32), (5, none), (7, none), (9, some .u32), (10, some .u8), (11, some .u8), (12, some .u64), (13, none), (15, none), (17, some .u32), (18, some .u32), (19, some .u32)]
def neP (a b : Nat) (p : Nat × Option IntKind) : Tm := match p.2 with
 | some k => .bin .neq k (.x (a + p.1)) (.x (b + p.1))
 | none => .f 10 [eqD (a + p.1) (b + p.1)]
def askNo (a b : Nat) (p : Nat × Option IntKind) : TEq := ⟨(neP a b p, true) :: (reqDef a ++ reqDef b), SAMEQ (reqT a ++ reqT b), .c 0⟩
def askEqs (a b : Nat) : List TEq :=
 ⟨(SAMEL (.x (a + 20)) (.x (b + 20)), true) :: (.bin .neq .i64 (LEN (.x (a + 20))) (LEN (.x (b + 20))), false) :: (reqParts.map fun p => (neP a b p, false)) ++ (reqDef a ++ reqDef b), SAMEQ (reqT a ++ reqT b), .c 1⟩ ::
 ⟨(SAMEL (.x (a + 20)) (.x (b + 20)), false) :: (reqDef a ++ reqDef b), SAMEQ (reqT a ++ reqT b), .c 0⟩ ::
 ⟨(.bin .neq .i64 (LEN (.x (a + 20))) (LEN (.x (b + 20))), true) :: (reqDef a ++ reqDef b), SAMEQ (reqT a ++ reqT b), .c 0⟩ :: reqParts.map (askNo a b)
def actDef (b : Nat) : List (Tm × Bool) := isRow (.x (b + 20)) :: (defL ks b ++ defL [.u8, .u32] (b + 21))
def actParts : List (Nat × Option IntKind) := [(0, some .u8), (1, some .u8), (2, some .i64), (21, none)]
def actNo (a b : Nat) (p : Nat × Option IntKind) : TEq := ⟨(neP a b p, true) :: (actDef a ++ actDef b), SAMEA (actT a ++ actT b), .c 0⟩
def actEqs (a b : Nat) : List TEq :=
 ⟨(SAMEQ (reqT a ++ reqT b), true) :: (actParts.map fun p => (neP a b p, false)) ++ (actDef a ++ actDef b), SAMEA (actT a ++ actT b), .c 1⟩ ::
 ⟨(SAMEQ (reqT a ++ reqT b), false) :: (actDef a ++ actDef b), SAMEA (actT a ++ actT b), .c 0⟩ :: actParts.map (actNo a b)
def lim36 (t i : Tm) : Tm := .bin .leq .i64 (LEN t) (.bin .add .i64 (.c 110000) (.bin .mul .i64 (.c 36) i))
def line4 (t r i : Tm) : Tm := CAT (CAT (CAT (CAT t (NUM (u64 (lc r i 0)))) (NUM (u64 (lc r i 1)))) (NUM (u64 (lc r i 2)))) (NUM (u64 (lc r i 3)))
def lemS1 (t r i : Tm) : Lem := ⟨[(lim36 t i, true), ge0 i, ltLen i r true, le300 r], lim36 (line4 t r i) (add1 i), true⟩
def linesEq1 (t r i : Tm) : TEq := ⟨[ltLen i r true, ge0 i, le300 r, ltLen (add1 i) r false], CAT t (LINES r i), line4 t r i⟩
def linesEq2 (t r i : Tm) : TEq := ⟨[ltLen i r true, ge0 i, le300 r], CAT t (LINES r i), CAT (line4 t r i) (LINES r (add1 i))⟩
def actNums (b : Nat) : List Tm := [u64 (.x b), u64 (.x (b + 1)), u64 (.x (b + 2)), u64 (u32 (.x (b + 3))), u64 (.x (b + 4)), u64 (.x (b + 5)), u64 (.x (b + 6)), u64 (.x (b + 7)), u64 (.x (b + 8)), u64 (.x (b + 9)), u64 (u32 (.x (b + 10))), u64 (u32 (.x (b + 11))), .x (b + 12), u64 (.x (b + 13)), u64 (.x (b + 14)), u64 (.x (b + 15)), u64 (.x (b + 16)), u64 (.x (b + 17)), u64 (.x (b + 18)), u64 (.x (b + 19)), u64 (u32 (LEN (.x (b + 20))))]
def dNums (b : Nat) : List Tm := [u64 (.x (b + 21)), u64 (.x (b + 22))]
def catN : Tm → List Tm → Tm
 | t, [] => t
 | t, n :: l => catN (CAT t (NUM n)) l
def catN0 : List Tm → Tm
 | [] => .c 0
 | n :: l => catN (NUM n) l
def putOut (p : Option Tm) (b : Nat) (z : Bool) : Tm :=
 let a := match p with
  | some t => catN t (actNums b)
  | none => catN0 (actNums b)
 catN (match z with | true => CAT a (LINES (.x (b + 20)) (.c 0)) | false => a) (dNums b)
def putEq (p : Option Tm) (b : Nat) (z : Bool) : TEq := ⟨[ltLen (.c 0) (.x (b + 20)) z, le300 (.x (b + 20)), isRow (.x (b + 20))], preT p (ACT (actT b)), putOut p b z⟩
def sz (t : Tm) : Tm × Bool := (.bin .leq .i64 (LEN t) (.c 1000000000000000), true)
def both (a b : Tm) : Tm := .bin .add .i64 (.bin .add .i64 (.c 0) (LEN a)) (LEN b)
def gt300 (t : Tm) : Tm × Bool := (.bin .gtr .i64 t (.c 300), false)
def lemG1 (a b : Tm) : Lem := ⟨[sz a, sz b, gt300 (both a b)], (le300 a).1, true⟩
def lemG2 (a b : Tm) : Lem := ⟨[sz a, sz b, gt300 (both a b)], (le300 b).1, true⟩
def ccT : List IntKind → Nat → List Tm
 | [], _ => []
 | k :: ks, i => .conv k (.x i) :: ccT ks (i + 1)
def caT (b : Nat) (z : Bool) : List Tm := .conv .u8 (.x b) :: .conv .u8 (.x (b + 1)) :: (match z with | true => .c 0 | false => .conv .i64 (.x (b + 2))) :: ccT kindsR (b + 3) ++ [.x (b + 20), .conv .u8 (.x (b + 21)), .conv .u32 (.x (b + 22))]
def theSame : Tm := SAMEA (caT 0 false ++ caT 30 false)
def at_ (b : Nat) : Tm := .conv .i64 (.x (b + 2))
def eqAt (a b : Nat) : Tm := .bin .eql .i64 (at_ a) (at_ b)
def lemSame (a b : Nat) : List Lem := [⟨[(theSame, true)], eqAt a b, true⟩, ⟨[(theSame, true)], EQS (ACT (caT a true)) (ACT (caT b true)), true⟩, ⟨[(theSame, false), (eqAt a b, true)], EQS (ACT (caT a true)) (ACT (caT b true)), false⟩]
def hdrT (b : Nat) : Tm := CAT (CAT (CAT (CAT (CAT (NUM (.c 0)) (NUM (.c 0))) (NUM (.c 0))) (NUM (.c 0))) (NUM (.c 1))) (ACT (caT b false))
def lemPut : List Lem := [⟨[(theSame, true)], EQS (hdrT 0) (hdrT 30), true⟩, ⟨[(theSame, false)], EQS (hdrT 0) (hdrT 30), false⟩]
def lemRefl : List Lem := [⟨[], eqAt 0 0, true⟩, ⟨[], EQS (ACT (caT 0 true)) (ACT (caT 0 true)), true⟩]
def lem0 : List Lem := lemAsk ++ [lemM1 (.x 1) (.x 2), lemM2 (.x 1) (.x 2), lemM0 (.x 1) (.x 2), lemI (.x 1) (.x 2), lemS1 (.x 0) (.x 1) (.x 2), lemG1 (.x 20) (.x 50), lemG2 (.x 20) (.x 50)] ++ lemRefl ++ lemSame 0 30 ++ lemSame 30 0 ++ lemPut
def lemD0 : List Lem := [lemPy (.x 20) (.x 50) (.x 60), lemPn (.x 20) (.x 50) (.x 60)]
def teq0 : List TEq := teqNum ++ (askEqs 0 30 ++ (actEqs 0 30 ++ [linesEq1 (.x 0) (.x 1) (.x 2), linesEq2 (.x 0) (.x 1) (.x 2), putEq none 1 false, putEq none 1 true, putEq (some (.x 0)) 1 false, putEq (some (.x 0)) 1 true]))
end Go.Proofs.YtcjbpaiomcfgnaaGreatDoor
namespace Go.Proofs.YtcjbpaiomcfgnaaGreatDoor
open Go
theorem cntB_eq {n k : Nat} (hk : 1 ≤ k) (hk8 : k ≤ 8) (h1 : k < 8 → n < 256 ^ k) (h2 : 2 ≤ k → 256 ^ (k - 1) ≤ n) : cntB n = k := by
 obtain h | h | h | h | h | h | h | h : k = 1 ∨ k = 2 ∨ k = 3 ∨ k = 4 ∨ k = 5 ∨ k = 6 ∨ k = 7 ∨ k = 8 := by omega
 all_goals
  subst h
  simp only [Nat.reducePow, Nat.reduceSub, Nat.reduceLT, Nat.reduceLeDiff, forall_const, true_implies, false_implies] at h1 h2
  unfold cntB
  repeat' split
  all_goals omega
theorem cntB_lt {n : Nat} (h : n < 18446744073709551616) : n < 256 ^ cntB n := by
 unfold cntB
 repeat' split
 all_goals simp only [Nat.reducePow]
 all_goals omega
theorem cntB_pos (n : Nat) : 1 ≤ cntB n := by
 unfold cntB
 repeat' split
 all_goals omega
theorem beB_mod : ∀ (k : Nat) {n m : Nat}, beB k n = beB k m → n % 256 ^ k = m % 256 ^ k
 | 0, n, m, _ => by simp [Nat.mod_one]
 | k + 1, n, m, h => by
  simp only [beB, List.cons.injEq] at h
  obtain ⟨h1, h2⟩ := h
  have ih := beB_mod k h2
  have h1 : (n / 256 ^ k) % 256 = (m / 256 ^ k) % 256 := by
   have := congrArg UInt8.toNat h1
   simpa [UInt8.toNat_ofNat'] using this
  rw [Nat.pow_succ, Nat.mod_mul, Nat.mod_mul, ih, h1]
theorem beB_inj {k n m : Nat} (hn : n < 256 ^ k) (hm : m < 256 ^ k) (h : beB k n = beB k m) : n = m := by
 have := beB_mod k h
 rwa [Nat.mod_eq_of_lt hn, Nat.mod_eq_of_lt hm] at this
theorem ofNat_inj {a b : Nat} (ha : a < 256) (hb : b < 256) (h : UInt8.ofNat a = UInt8.ofNat b) : a = b := by
 have := congrArg UInt8.toNat h
 simp only [UInt8.toNat_ofNat'] at this
 omega
theorem numB_inj {n m : Nat} (hn : n < 18446744073709551616) (hm : m < 18446744073709551616) {r s : List UInt8} (h : numB n ++ r = numB m ++ s) : n = m ∧ r = s := by
 have cn := cntB_le n; have cm := cntB_le m
 have pn := cntB_pos n; have pm := cntB_pos m
 unfold numB at h
 split at h
 ·split at h
  ·simp only [List.cons_append, List.nil_append, List.cons.injEq] at h
   exact ⟨ofNat_inj (by omega) (by omega) h.1, h.2⟩
  ·simp only [List.cons_append, List.nil_append, List.cons.injEq] at h
   have := ofNat_inj (by omega) (by omega) h.1
   omega
 ·split at h
  ·simp only [List.cons_append, List.nil_append, List.cons.injEq] at h
   have := ofNat_inj (by omega) (by omega) h.1
   omega
  ·simp only [List.cons_append, List.cons.injEq] at h
   have e : cntB n = cntB m := by
    have := ofNat_inj (by omega) (by omega) h.1
    omega
   rw [e] at h
   obtain ⟨h1, h2⟩ := List.append_inj h.2 (by rw [beB_len, beB_len])
   have k1 := cntB_lt hn
   have k2 := cntB_lt hm
   rw [e] at k1
   exact ⟨beB_inj k1 k2 h1, h2⟩
theorem w64_lt (n : Int) : w64 n < 18446744073709551616 := by
 have h1 : IntKind.u64.wrap n ≤ IntKind.u64.max := (wrap_rng .u64 n).2
 have h2 : IntKind.u64.min ≤ IntKind.u64.wrap n := (wrap_rng .u64 n).1
 have e1 : IntKind.u64.max = 18446744073709551615 := rfl
 have e2 : IntKind.u64.min = 0 := rfl
 unfold w64
 omega
theorem NB_inj {n m : Int} {r s : List UInt8} (h : NB n ++ r = NB m ++ s) : w64 n = w64 m ∧ r = s := numB_inj (w64_lt n) (w64_lt m) h
theorem flatNB_inj : ∀ {l m : List Int} {r s : List UInt8}, l.length = m.length → l.flatMap NB ++ r = m.flatMap NB ++ s → l.map w64 = m.map w64 ∧ r = s
 | [], [], r, s, _, h => ⟨rfl, by simpa using h⟩
 | [], _ :: _, _, _, hl, _ => by simp at hl
 | _ :: _, [], _, _, hl, _ => by simp at hl
 | a :: l, b :: m, r, s, hl, h => by
  simp only [List.flatMap_cons, List.append_assoc] at h
  obtain ⟨h1, h2⟩ := NB_inj h
  obtain ⟨h3, h4⟩ := flatNB_inj (by simpa using hl) h2
  exact ⟨by simp [h1, h3], h4⟩
end Go.Proofs.YtcjbpaiomcfgnaaGreatDoor
namespace Go.Proofs.YtcjbpaiomcfgnaaGreatDoor
open Go
section
variable {ν : Nm}
theorem flat_n {b : Bool} : flatU (some (n01 b)) = some (b01 b) := rfl
theorem NB_wrap (n : Int) : NB (IntKind.u64.wrap n) = NB n := by
 unfold NB w64
 rw [wrap_in (wrap_rng .u64 n).1 (wrap_rng .u64 n).2]
theorem den_NUM {n : Tm} {d : Dat} : denT ν (NUM n) = some d ↔ ∃ x, denT ν n = some (.n x) ∧ d = .s (NB x) := by
 unfold NUM
 rw [den_U (by omega)]
 constructor
 ·rintro ⟨ds, h1, h2⟩
  obtain ⟨x, h3, rfl⟩ := denTs_one.1 h1
  cases x with
  | n x => exact ⟨x, h3, by simpa [progU, flatU] using h2.symm⟩
  | _ => simp [progU, flatU] at h2
 ·rintro ⟨x, h1, rfl⟩
  exact ⟨[.n x], denTs_one.2 ⟨_, h1, rfl⟩, rfl⟩
theorem den_LINES {t i : Tm} {d : Dat} : denT ν (LINES t i) = some d ↔ ∃ e v xs m, denT ν t = some (.r e v xs) ∧ denT ν i = some (.n m) ∧ (0 ≤ m ∧ xs.length ≤ 300) ∧ d = .s (linesB (xs.drop m.toNat)) := by
 unfold LINES
 rw [den_U (by omega)]
 constructor
 ·rintro ⟨ds, h1, h2⟩
  obtain ⟨x, y, h3, h4, rfl⟩ := denTs_two.1 h1
  have h2 := h2
  cases x with
  | r e v xs =>
   cases y with
   | n m =>
    simp only [progU] at h2
    split at h2
    ·rename_i hc
     exact ⟨e, v, xs, m, h3, h4, hc, by simpa [flatU] using h2.symm⟩
    ·simp [flatU] at h2
   | _ => simp [progU, flatU] at h2
  | _ => simp [progU, flatU] at h2
 ·rintro ⟨e, v, xs, m, h1, h2, hc, rfl⟩
  refine ⟨[.r e v xs, .n m], denTs_two.2 ⟨_, _, h1, h2, rfl⟩, ?_⟩
  simp only [progU, if_pos hc, flatU]
theorem den_PREF {a b i : Tm} {e e' : TypeId} {v v' : Value} {xs ys : List Dat} {m : Int} (h1 : denT ν a = some (.r e v xs)) (h2 : denT ν b = some (.r e' v' ys)) (h3 : denT ν i = some (.n m)) : denT ν (PREF a b i) = some (b01 (decide ((xs.take m.toNat).map viewL = (ys.take m.toNat).map viewL))) :=
 (den_U (by omega)).2 ⟨_, denTs_mk h1 (denTs_mk h2 (denTs_mk h3 rfl)), rfl⟩
theorem PREF_rows {a b i : Tm} (h : IsSo ν (PREF a b i) true) : ∃ e v xs e' v' ys m, denT ν a = some (.r e v xs) ∧ denT ν b = some (.r e' v' ys) ∧ denT ν i = some (.n m) ∧ (xs.take m.toNat).map viewL = (ys.take m.toNat).map viewL := by
 obtain ⟨n, h1, h2⟩ := h
 obtain ⟨ds, h3, h4⟩ := (den_U (by omega)).1 h1
 obtain ⟨x, r1, g1, q1, rfl⟩ := denTs_cons h3
 obtain ⟨y, r2, g2, q2, rfl⟩ := denTs_cons q1
 obtain ⟨z, r3, g3, q3, rfl⟩ := denTs_cons q2
 rw [denTs_nil q3] at h4
 unfold progU at h4
 simp only at h4
 split at h4
 ·rename_i e1 v1 xs e2 v2 ys m hq
  simp only [List.cons.injEq] at hq
  obtain ⟨rfl, rfl, rfl, _⟩ := hq
  refine ⟨_, _, xs, _, _, ys, m, g1, g2, g3, ?_⟩
  rw [flat_n] at h4
  exact tru (so_b01 (h1.trans h4.symm) ⟨n, h1, h2⟩) rfl
 ·rw [flat_n] at h4
  have := so_b01 (h1.trans h4.symm) ⟨n, h1, h2⟩
  cases this
theorem den_SAMEL {a b : Tm} {e e' : TypeId} {v v' : Value} {xs ys : List Dat} (h1 : denT ν a = some (.r e v xs)) (h2 : denT ν b = some (.r e' v' ys)) : denT ν (SAMEL a b) = some (b01 (decide (xs.map viewL = ys.map viewL))) :=
 (den_U (by omega)).2 ⟨_, denTs_mk h1 (denTs_mk h2 rfl), rfl⟩
theorem shr8 {x : Int} (h : 0 ≤ x) (k : Nat) : x.fdiv (2 ^ (8 * (k : Int)).toNat) = ((x.toNat / 256 ^ k : Nat) : Int) := by
 have e : (8 * (k : Int)).toNat = 8 * k := by omega
 have e2 : (2 : Int) ^ (8 * k) = ((256 ^ k : Nat) : Int) := by
  rw [Int.pow_mul]
  norm_cast
 rw [e, e2]
 obtain ⟨m, rfl⟩ := Int.eq_ofNat_of_zero_le h
 rw [Int.fdiv_eq_ediv_of_nonneg _ (Int.natCast_nonneg _)]
 norm_cast
theorem u8_ofNat (m : Nat) : UInt8.ofNat (IntKind.u8.wrap (m : Int)).toNat = UInt8.ofNat m := by
 have h : (IntKind.u8.wrap (m : Int)).toNat = m % 256 := by
  simp only [IntKind.wrap, IntKind.bits, IntKind.signed]
  simp
  omega
 rw [h]
 apply UInt8.toNat_inj.1
 simp
theorem den_byte {t : Tm} {d : Dat} (h : denT ν (BYTES [.conv .u8 t]) = some d) : ∃ x, denT ν t = some (.n x) ∧ d = .s [UInt8.ofNat (IntKind.u8.wrap x).toNat] := by
 obtain ⟨ds, bs, h1, h2, rfl⟩ := den_f3.1 h
 obtain ⟨y, h3, rfl⟩ := denTs_one.1 h1
 obtain ⟨x, h4, rfl⟩ := den_conv.1 h3
 refine ⟨x, h4, ?_⟩
 simp only [bytesD] at h2
 split at h2
 ·rename_i m e1 e2
  injection h2 with h2
  injection e2 with e2
  subst h2 e2
  rfl
 ·cases h2
theorem numT_den {n : Tm} {x : Int} (hn : denT ν n = some (.n x)) (h0 : 0 ≤ x) : ∀ (k : Nat) {a : Tm} {d : Dat}, denT ν (numT n k a) = some d → ∃ s, denT ν a = some (.s s) ∧ d = .s (s ++ beB k x.toNat) ∨ (k = 0 ∧ denT ν a = some d)
 | 0, a, d, h => ⟨[], .inr ⟨rfl, h⟩⟩
 | k + 1, a, d, h => by
  unfold numT at h
  obtain ⟨s, h1⟩ := numT_den hn h0 k h
  have key : ∃ s0, denT ν a = some (.s s0) ∧ denT ν (CAT a (BYTES [.conv .u8 (SHR n (8 * k))])) = some (.s (s0 ++ [UInt8.ofNat (x.toNat / 256 ^ k)])) := by
   have hc : ∃ d', denT ν (CAT a (BYTES [.conv .u8 (SHR n (8 * k))])) = some d' := by
    rcases h1 with ⟨h1, _⟩ | ⟨_, h1⟩
    ·exact ⟨_, h1⟩
    ·exact ⟨_, h1⟩
   obtain ⟨d', hd'⟩ := hc
   rcases den_f2.1 hd' with ⟨p, q, g1, g2, g3⟩ | ⟨p, q, g1, g2, g3⟩
   ·obtain ⟨y, g4, g5⟩ := den_byte g2
    obtain ⟨m, c, g6, g7, g8⟩ := den_f6.1 g4
    have e1 := den_one hn g6
    have e2 := den_c g7
    injection g8 with g8
    subst e1 e2
    rw [shr8 h0] at g8
    subst g8
    rw [u8_ofNat] at g5
    injection g5 with g5
    subst g5 g3
    exact ⟨p, g1, hd'⟩
   ·obtain ⟨y, g4, g5⟩ := den_byte g2
    cases g5
  obtain ⟨s0, k1, k2⟩ := key
  refine ⟨s0, .inl ⟨k1, ?_⟩⟩
  rcases h1 with ⟨h1, h2⟩ | ⟨rfl, h1⟩
  ·rw [k2] at h1
   injection h1 with h1
   injection h1 with h1
   subst h1 h2
   simp [beB]
  ·rw [k2] at h1
   injection h1 with h1
   subst h1
   simp [beB]
end
end Go.Proofs.YtcjbpaiomcfgnaaGreatDoor
namespace Go.Proofs.YtcjbpaiomcfgnaaGreatDoor
open Go
section
variable {ν : Nm}
theorem all_app : ∀ {l m : List (Tm × Bool)}, AllSo ν (l ++ m) → AllSo ν l ∧ AllSo ν m
 | [], _, h => ⟨trivial, h⟩
 | _ :: _, _, h => ⟨⟨h.1, (all_app h.2).1⟩, (all_app h.2).2⟩
theorem w64_in {x : Int} (h0 : 0 ≤ x) (h1 : x ≤ 18446744073709551615) : w64 x = x.toNat := by
 unfold w64
 rw [wrap_in (k := .u64) h0 h1]
theorem den_const {m : Nat} {d : Dat} (h : denT ν (BYTES [.c (m : Int)]) = some d) : d = .s [UInt8.ofNat m] := by
 obtain ⟨ds, bs, h1, h2, rfl⟩ := den_f3.1 h
 obtain ⟨y, h3, rfl⟩ := denTs_one.1 h1
 simp only [denT, Option.some.injEq] at h3
 subst h3
 simp only [bytesD] at h2
 split at h2
 ·rename_i m' e1 e2
  have h2 := Option.some.inj h2
  have e2 := Option.some.inj e2
  subst h2 e2
  rw [Int.toNat_natCast]
 ·cases h2
theorem pre_den {p : Option Tm} {t : Tm} {s : List UInt8} (h : denT ν (preT p t) = some (.s s)) (ht : ∀ d, denT ν t = some d → ∃ r, d = .s r) : ∃ pre r, denT ν t = some (.s r) ∧ s = pre ++ r ∧ ∀ (u : Tm) (r' : List UInt8), denT ν u = some (.s r') → denT ν (preT p u) = some (.s (pre ++ r')) := by
 cases p with
 | none => exact ⟨[], s, h, rfl, fun u r' hu => hu⟩
 | some p =>
  rcases den_f2.1 h with ⟨x, y, h1, h2, h3⟩ | ⟨x, y, h1, h2, h3⟩
  ·injection h3 with h3
   exact ⟨x, y, h2, h3, fun u r' hu => den_f2.2 (.inl ⟨x, r', h1, hu, rfl⟩)⟩
  ·obtain ⟨r, hr⟩ := ht _ h2
   cases hr
theorem numEq_is {p : Option Tm} {n : Tm} {k : Nat} (hk : 1 ≤ k) (hk8 : k ≤ 8) : TEqIs (numEq p n k) := fun ν hs d hd => by
 obtain ⟨h1, h2, h3, hr⟩ := hs
 obtain ⟨hr1, hr2⟩ := all_app hr
 obtain ⟨x, c, a1, a2, a3⟩ := so_geq h1
 obtain ⟨x2, c2, b1, b2, b3⟩ := so_leq h2
 obtain ⟨x3, c3, e1, e2, e3⟩ := so_lss h3
 have q1 := den_c a2; have q2 := den_c b2; have q3 := den_c e2
 have q4 := den_one a1 b1; have q5 := den_one a1 e1
 have g1 := tru a3 rfl; have g2 := tru b3 rfl; have g3 := fls e3 rfl
 subst q1 q2 q3 q4 q5
 have gm : x ≤ 18446744073709551615 := g2
 obtain ⟨s, h4⟩ := numT_den a1 (by omega) k hd
 obtain ⟨g4, h5⟩ : denT ν (preT p (BYTES [.c (128 + (k : Int))])) = some (.s s) ∧ d = .s (s ++ beB k x.toNat) := by
  rcases h4 with h4 | ⟨h4, _⟩
  ·exact h4
  ·omega
 subst h5
 have e128 : (128 + (k : Int)) = ((128 + k : Nat) : Int) := by omega
 rw [e128] at g4
 obtain ⟨pre, r, k1, k2, k3⟩ := pre_den g4 fun d hd => ⟨_, den_const hd⟩
 have k4 := Dat.s.inj (den_const k1)
 subst k4 k2
 have hc : cntB x.toNat = k := by
  refine cntB_eq hk hk8 (fun h => ?_) fun h => ?_
  ·rw [if_pos h] at hr1
   obtain ⟨y, z, f1, f2, f3⟩ := so_gtr hr1.1
   obtain ⟨m, c, f4, f5, f6⟩ := den_f6.1 f1
   have w1 := den_one a1 f4; have w2 := den_c f5; have w3 := den_c f2
   rw [← w1, w2] at f6
   rw [w3] at f3
   injection f6 with f6
   rw [shr8 (by omega)] at f6
   have := fls f3 rfl
   have h0 : x.toNat / 256 ^ k = 0 := by
    generalize x.toNat / 256 ^ k = q at f6 ⊢
    omega
   exact (Nat.div_eq_zero_iff_lt (Nat.pow_pos (by omega))).1 h0
  ·rw [if_pos h] at hr2
   obtain ⟨y, z, f1, f2, f3⟩ := so_gtr hr2.1
   obtain ⟨m, c, f4, f5, f6⟩ := den_f6.1 f1
   have w1 := den_one a1 f4; have w2 := den_c f5; have w3 := den_c f2
   rw [← w1, w2] at f6
   rw [w3] at f3
   injection f6 with f6
   have e8 : (8 * ((k : Int) - 1)) = 8 * ((k - 1 : Nat) : Int) := by omega
   rw [e8, shr8 (by omega)] at f6
   have := tru f3 rfl
   have h0 : 0 < x.toNat / 256 ^ (k - 1) := by
    generalize x.toNat / 256 ^ (k - 1) = q at f6 ⊢
    omega
   exact (Nat.div_pos_iff.1 h0).2
 have hn : denT ν (NUM n) = some (.s (UInt8.ofNat (128 + k) :: beB k x.toNat)) := by
  refine den_NUM.2 ⟨x, a1, ?_⟩
  unfold NB
  rw [w64_in (by omega) gm]
  unfold numB
  rw [if_neg (by omega), hc]
 have := k3 _ _ hn
 rw [show pre ++ (UInt8.ofNat (128 + k) :: beB k x.toNat) = pre ++ [UInt8.ofNat (128 + k)] ++ beB k x.toNat by simp] at this
 exact this
theorem numEq0_is {p : Option Tm} {n : Tm} : TEqIs (numEq0 p n) := fun ν hs d hd => by
 obtain ⟨h1, h3, _⟩ := hs
 obtain ⟨x, c, a1, a2, a3⟩ := so_geq h1
 obtain ⟨x3, c3, e1, e2, e3⟩ := so_lss h3
 have q1 := den_c a2; have q3 := den_c e2
 have q5 := den_one a1 e1
 have g1 := tru a3 rfl; have g3 := tru e3 rfl
 subst q1 q3 q5
 have hb : ∀ d, denT ν (BYTES [.conv .u8 n]) = some d → d = .s (NB x) := fun d hd => by
  obtain ⟨y, k1, rfl⟩ := den_byte hd
  have := den_one a1 k1
  subst this
  unfold NB numB
  rw [w64_in (by omega) (by omega), if_pos (by omega)]
  have := u8_ofNat x.toNat
  rw [show ((x.toNat : Nat) : Int) = x by omega] at this
  rw [this]
 have hs : ∃ s, d = .s s := by
  cases p with
  | none => exact ⟨_, hb d hd⟩
  | some p =>
   rcases den_f2.1 hd with ⟨x, y, h1, h2, h3⟩ | ⟨x, y, h1, h2, h3⟩
   ·exact ⟨_, h3⟩
   ·have := hb _ h2; cases this
 obtain ⟨s, rfl⟩ := hs
 obtain ⟨pre, r, k1, k2, k3⟩ := pre_den hd fun d hd => ⟨_, hb d hd⟩
 have := hb _ k1
 injection this with this
 subst this k2
 exact k3 _ _ (den_NUM.2 ⟨x, a1, rfl⟩)
theorem numEqs_ok {p : Option Tm} {n : Tm} : TEqOk (numEqs p n) :=
 teq_cons numEq0_is (teq_cons (numEq_is (by omega) (by omega)) (teq_cons (numEq_is (by omega) (by omega)) (teq_cons (numEq_is (by omega) (by omega)) (teq_cons (numEq_is (by omega) (by omega)) (teq_cons (numEq_is (by omega) (by omega)) (teq_cons (numEq_is (by omega) (by omega)) (teq_cons (numEq_is (by omega) (by omega)) (teq_cons (numEq_is (by omega) (by omega)) teq_nil))))))))
theorem teqNum_ok : TEqOk teqNum := teq_append numEqs_ok numEqs_ok
theorem line_of {r i : Tm} {x : Int} {e : TypeId} {v : Value} {xs : List Dat} (hr : denT ν r = some (.r e v xs)) (hi : denT ν i = some (.n x)) {j : Nat} {k : IntKind} {m : Int} (h : denT ν (.conv k (CELL r i j)) = some (.n m)) : ∃ d c, xs[x.toNat]? = some d ∧ 0 ≤ x ∧ cellI d j = c ∧ m = k.wrap c := by
 obtain ⟨y, h1, h2⟩ := den_convn h
 obtain ⟨e', v', xs', m', n', z, k1, k2, k3, k4, k5, k6, k7⟩ := den_f1.1 h1
 rw [hr] at k1
 simp only [Option.some.injEq, Dat.r.injEq] at k1
 obtain ⟨_, _, rfl⟩ := k1
 have q1 := den_one hi k2
 have q2 := den_c k3
 subst q1 q2
 refine ⟨z, _, k6, k4, rfl, ?_⟩
 rw [h2]
 congr 1
 simp only [Int.toNat_natCast] at k7
 unfold cellD at k7
 unfold cellI
 cases z with
 | l ds => simp only at k7 ⊢; rw [k7]
 | n n =>
  simp only at k7 ⊢
  split at k7
  ·simp only [Option.some.injEq, Dat.n.injEq] at k7; exact k7.symm
  ·cases k7
 | s _ =>
  simp only at k7
  split at k7
  ·cases k7
  ·cases k7
 | v _ =>
  simp only at k7
  split at k7
  ·cases k7
  ·cases k7
 | r _ _ _ =>
  simp only at k7
  split at k7
  ·cases k7
  ·cases k7
theorem lc_of {r i : Tm} {x : Int} {e : TypeId} {v : Value} {xs : List Dat} (hr : denT ν r = some (.r e v xs)) (hi : denT ν i = some (.n x)) {m0 m1 m2 m3 : Int} (h0 : denT ν (lc r i 0) = some (.n m0)) (h1 : denT ν (lc r i 1) = some (.n m1)) (h2 : denT ν (lc r i 2) = some (.n m2)) (h3 : denT ν (lc r i 3) = some (.n m3)) : ∃ d, xs[x.toNat]? = some d ∧ viewL d = [m0, m1, m2, m3] := by
 obtain ⟨d, c0, a1, _, a3, a4⟩ := line_of (j := 0) hr hi h0
 obtain ⟨d1, c1, b1, _, b3, b4⟩ := line_of (j := 1) hr hi h1
 obtain ⟨d2, c2, e1, _, e3, e4⟩ := line_of (j := 2) hr hi h2
 obtain ⟨d3, c3, f1, _, f3, f4⟩ := line_of (j := 3) hr hi h3
 rw [a1] at b1 e1 f1
 injection b1 with b1
 injection e1 with e1
 injection f1 with f1
 subst b1 e1 f1 a3 b3 e3 f3 a4 b4 e4 f4
 exact ⟨d, a1, rfl⟩
theorem catN_den : ∀ {l : List Tm} {t : Tm} {d : Dat}, denT ν (catN t l) = some d → (l = [] ∧ denT ν t = some d) ∨ ∃ (s : List UInt8) (ns : List Int), denT ν t = some (.s s) ∧ denTs ν l = some (ns.map .n) ∧ d = .s (s ++ ns.flatMap NB)
 | [], t, d, h => .inl ⟨rfl, h⟩
 | n :: l, t, d, h => by
  unfold catN at h
  have key : ∀ {d}, denT ν (CAT t (NUM n)) = some d → ∃ s x, denT ν t = some (.s s) ∧ denT ν n = some (.n x) ∧ d = .s (s ++ NB x) := by
   intro d hd
   rcases den_f2.1 hd with ⟨x, y, h1, h2, h3⟩ | ⟨x, y, h1, h2, h3⟩
   ·obtain ⟨z, k1, k2⟩ := den_NUM.1 h2
    injection k2 with k2
    subst k2
    exact ⟨x, z, h1, k1, h3⟩
   ·obtain ⟨z, k1, k2⟩ := den_NUM.1 h2
    cases k2
  rcases catN_den h with ⟨rfl, h1⟩ | ⟨s, ns, h1, h2, h3⟩
  ·obtain ⟨s, x, k1, k2, k3⟩ := key h1
   exact .inr ⟨s, [x], k1, denTs_mk k2 rfl, by simpa using k3⟩
  ·obtain ⟨s', x, k1, k2, k3⟩ := key h1
   injection k3 with k3
   subst k3 h3
   exact .inr ⟨s', x :: ns, k1, denTs_mk k2 h2, by simp⟩
theorem line4_eq (t r i : Tm) : line4 t r i = catN t [u64 (lc r i 0), u64 (lc r i 1), u64 (lc r i 2), u64 (lc r i 3)] := rfl
theorem u64_den {t : Tm} {d : Dat} (h : denT ν (u64 t) = some d) : ∃ x, denT ν t = some (.n x) ∧ d = .n (IntKind.u64.wrap x) := den_conv.1 h
theorem line4_den {t r i : Tm} {d : Dat} {x : Int} {e : TypeId} {v : Value} {xs : List Dat} (hr : denT ν r = some (.r e v xs)) (hi : denT ν i = some (.n x)) (h : denT ν (line4 t r i) = some d) : ∃ s l, denT ν t = some (.s s) ∧ xs[x.toNat]? = some l ∧ d = .s (s ++ lineB l) := by
 rw [line4_eq] at h
 rcases catN_den h with ⟨h, _⟩ | ⟨s, ns, h1, h2, h3⟩
 ·cases h
 ·obtain ⟨d0, r0, a0, b0, e0⟩ := denTs_cons h2
  obtain ⟨d1, r1, a1, b1, e1⟩ := denTs_cons b0
  obtain ⟨d2, r2, a2, b2, e2⟩ := denTs_cons b1
  obtain ⟨d3, r3, a3, b3, e3⟩ := denTs_cons b2
  have b3 := denTs_nil b3
  obtain ⟨m0, k0, rfl⟩ := u64_den a0
  obtain ⟨m1, k1, rfl⟩ := u64_den a1
  obtain ⟨m2, k2, rfl⟩ := u64_den a2
  obtain ⟨m3, k3, rfl⟩ := u64_den a3
  subst b3 e3 e2 e1
  obtain ⟨l, g1, g2⟩ := lc_of hr hi k0 k1 k2 k3
  refine ⟨s, l, h1, g1, ?_⟩
  rw [h3]
  congr 2
  have : ns = [IntKind.u64.wrap m0, IntKind.u64.wrap m1, IntKind.u64.wrap m2, IntKind.u64.wrap m3] := by
   have hm : ns.map Dat.n = [IntKind.u64.wrap m0, IntKind.u64.wrap m1, IntKind.u64.wrap m2, IntKind.u64.wrap m3].map Dat.n := e0
   exact List.map_inj_right (fun x y h => by injection h) |>.1 hm
  subst this
  unfold lineB
  rw [g2]
  simp only [List.flatMap_cons, List.flatMap_nil, NB_wrap]
theorem drop_line {xs : List Dat} {i : Nat} {l : Dat} (h : xs[i]? = some l) : linesB (xs.drop i) = lineB l ++ linesB (xs.drop (i + 1)) := by
 obtain ⟨hi, he⟩ := List.getElem?_eq_some_iff.1 h
 rw [List.drop_eq_getElem_cons hi, he]
 rfl
theorem row_cell {r i : Tm} {m : Int} {k : IntKind} {j : Int} (h : denT ν (.conv k (CELL r i j)) = some (.n m)) : ∃ e v xs, denT ν r = some (.r e v xs) := by
 obtain ⟨y, h1, h2⟩ := den_convn h
 obtain ⟨e', v', xs', m', n', z, k1, _⟩ := den_f1.1 h1
 exact ⟨_, _, _, k1⟩
theorem line4_row {t r i : Tm} {d : Dat} (h : denT ν (line4 t r i) = some d) : ∃ e v xs, denT ν r = some (.r e v xs) := by
 rw [line4_eq] at h
 rcases catN_den h with ⟨h, _⟩ | ⟨s, ns, h1, h2, h3⟩
 ·cases h
 ·obtain ⟨d0, r0, a0, b0, e0⟩ := denTs_cons h2
  obtain ⟨m0, k0, rfl⟩ := u64_den a0
  exact row_cell k0
theorem lenDat_row {e : TypeId} {v : Value} {xs : List Dat} {m : Nat} (h : lenDat (.r e v xs) = some m) : m = xs.length := by
 simp only [lenDat, Option.some.injEq] at h
 exact h.symm
theorem linesEq2_is {t r i : Tm} : TEqIs (linesEq2 t r i) := fun ν hs d hd => by
 obtain ⟨h1, h2, h3, _⟩ := hs
 obtain ⟨dr, l, x, k0, k1, k2, k3, k4, k5⟩ := place_of h3 h2
 have k6 := tru (lt_of h1 k3 k4) rfl
 rcases den_f2.1 hd with ⟨p, q, g1, g2, g3⟩ | ⟨p, q, g1, g2, g3⟩
 ·obtain ⟨e, v, xs, m, e1, e2, e3, e4⟩ := den_LINES.1 g2
  obtain ⟨s, ln, f1, f2, f3⟩ := line4_den e1 k4 g1
  have e5 := add1_den k4 k5 (by omega) e2
  injection f3 with f3
  injection e4 with e4
  subst f3 e4 e5 g3
  refine den_f2.2 (.inl ⟨s, _, f1, den_LINES.2 ⟨e, v, xs, x, e1, k4, ⟨k5, e3.2⟩, rfl⟩, ?_⟩)
  rw [drop_line f2]
  rw [show (x + 1).toNat = x.toNat + 1 by omega]
  simp
 ·obtain ⟨e, v, xs, m, e1, e2, e3, e4⟩ := den_LINES.1 g2
  cases e4
theorem linesEq1_is {t r i : Tm} : TEqIs (linesEq1 t r i) := fun ν hs d hd => by
 obtain ⟨h1, h2, h3, h4, _⟩ := hs
 obtain ⟨dr, l, x, k0, k1, k2, k3, k4, k5⟩ := place_of h3 h2
 have k6 := tru (lt_of h1 k3 k4) rfl
 have k7 := fls (lt_of h4 k3 (add1_mk k4 k5 (by omega))) rfl
 obtain ⟨e, v, xs, e1⟩ := line4_row hd
 rw [k0] at e1
 injection e1 with e1
 subst e1
 have := lenDat_row k1
 subst this
 obtain ⟨s, ln, f1, f2, f3⟩ := line4_den k0 k4 hd
 subst f3
 refine den_f2.2 (.inl ⟨s, _, f1, den_LINES.2 ⟨e, v, xs, x, k0, k4, ⟨k5, k2⟩, rfl⟩, ?_⟩)
 rw [drop_line f2, List.drop_eq_nil_of_le (by omega)]
 simp [linesB]
end
end Go.Proofs.YtcjbpaiomcfgnaaGreatDoor
namespace Go.Proofs.YtcjbpaiomcfgnaaGreatDoor
open Go
section
variable {ν : Nm} {a b i t r : Tm}
theorem n01_den {c b : Bool} (h : denT ν t = some (b01 c)) (k : IsSo ν t b) : b = c := (so_b01 h k).symm
theorem neLen_of (h : IsSo ν (neLen a b).1 (neLen a b).2) : ∃ d d' l, denT ν a = some d ∧ denT ν b = some d' ∧ lenDat d = some l ∧ lenDat d' = some l ∧ denT ν (LEN a) = some (.n l) ∧ denT ν (LEN b) = some (.n l) := by
 obtain ⟨x, y, h1, h2, h3⟩ := so_neq h
 obtain ⟨d, m, k1, k2, k3⟩ := len_row h1
 obtain ⟨d', m', g1, g2, g3⟩ := len_row h2
 subst k3 g3
 have : (m : Int) = m' := by simpa using (show (!decide ((m : Int) = m')) = false from h3)
 have : m = m' := by omega
 subst this
 exact ⟨d, d', m, k1, g1, k2, g2, h1, h2⟩
theorem lemLt_is : LemIs (lemLt a b i) := fun ν hs c hb => by
 obtain ⟨h1, h2, _⟩ := hs
 obtain ⟨d, d', l, k1, k2, k3, k4, k5, k6⟩ := neLen_of h2
 obtain ⟨x, y, e1, e2, e3⟩ := so_lss hb
 have := den_one k6 e2
 subst this
 have := tru (lt_of h1 k5 e1) rfl
 rw [← e3]
 exact decide_eq_true this
theorem isRow_of (h : IsSo ν (isRow a).1 (isRow a).2) : ∃ e v xs, denT ν a = some (.r e v xs) := by
 obtain ⟨x, y, h1, h2, h3⟩ := so_geq h
 obtain ⟨d, m, k1, k2, k3⟩ := len_row h1
 obtain ⟨e, v, xs, g1, g2⟩ := den_f15.1 k1
 exact ⟨e, v, xs, g1⟩
theorem lemP0_is : LemIs (lemP0 a b) := fun ν hs c hb => by
 obtain ⟨h1, h2, _⟩ := hs
 obtain ⟨e, v, xs, k1⟩ := isRow_of h1
 obtain ⟨e', v', ys, k2⟩ := isRow_of h2
 rw [n01_den (den_PREF (i := .c 0) (m := 0) k1 k2 rfl) hb]
 rfl
theorem lemP1_is : LemIs (lemP1 a b i) := fun ν hs c hb => by
 obtain ⟨h1, h2, h3, h4, h5, h6, _⟩ := hs
 obtain ⟨e, v, xs, e', v', ys, m, k1, k2, k3, k4⟩ := PREF_rows h1
 obtain ⟨d, l, x, g0, g1, g2, g3, g4, g5⟩ := place_of h6 h5
 have g6 := tru (lt_of h3 g3 g4) rfl
 have := den_one k3 g4
 subst this
 rw [k1] at g0
 injection g0 with g0
 subst g0
 have := lenDat_row g1
 subst this
 have key := den_PREF (ν := ν) k1 k2 (add1_mk k3 g5 (by omega))
 rw [n01_den key hb]
 refine decide_eq_true ?_
 obtain ⟨p, q, s1, s2, s3⟩ := so_and h2
 obtain ⟨p0, p1, s4, s5, s6⟩ := so_and s1
 obtain ⟨p2, p3, s7, s8, s9⟩ := so_and s2
 have hh : p0 = true ∧ p1 = true ∧ p2 = true ∧ p3 = true := by
  have s3 : (p && q) = true := s3
  revert s3 s6 s9
  cases p0 <;> cases p1 <;> cases p2 <;> cases p3 <;> cases p <;> cases q <;> simp
 obtain ⟨rfl, rfl, rfl, rfl⟩ := hh
 obtain ⟨x0, y0, a1, a2, a3⟩ := so_eql s4
 obtain ⟨x1, y1, b1, b2, b3⟩ := so_eql s5
 obtain ⟨x2, y2, c1, c2, c3⟩ := so_eql s7
 obtain ⟨x3, y3, d1, d2, d3⟩ := so_eql s8
 obtain ⟨u, u1, u2⟩ := lc_of k1 k3 a1 b1 c1 d1
 obtain ⟨w, w1, w2⟩ := lc_of k2 k3 a2 b2 c2 d2
 have t0 := tru a3 rfl; have t1 := tru b3 rfl; have t2 := tru c3 rfl; have t3 := tru d3 rfl
 subst t0 t1 t2 t3
 rw [show (m + 1).toNat = m.toNat + 1 by omega, List.take_add_one, List.take_add_one, u1, w1]
 simp only [Option.toList_some, List.map_append, List.map_cons, List.map_nil, k4, u2, w2]
theorem lemPy_d : LemDIs (lemPy a b i) := fun ν hs => by
 obtain ⟨h1, h2, h3, h4, h5, h6, _⟩ := hs
 obtain ⟨e, v, xs, e', v', ys, m, k1, k2, k3, k4⟩ := PREF_rows h1
 obtain ⟨d, d', l, q1, q2, q3, q4, q5, q6⟩ := neLen_of h4
 have g6 := fls (lt_of h2 q5 k3) rfl
 have g7 := le_of h3 q5 k3
 rw [k1] at q1
 rw [k2] at q2
 injection q1 with q1
 injection q2 with q2
 subst q1 q2
 have e1 := lenDat_row q3
 have e2 := lenDat_row q4
 refine so_b01_mk (den_SAMEL k1 k2) (decide_eq_true ?_)
 have h0 : m.toNat = l := by omega
 rw [h0, List.take_of_length_le (by omega), List.take_of_length_le (by omega)] at k4
 exact k4
theorem EL_no {ν : Nm} {x : Int} {e e' : TypeId} {v v' : Value} {xs ys : List Dat} (k1 : denT ν a = some (.r e v xs)) (k2 : denT ν b = some (.r e' v' ys)) (k3 : denT ν i = some (.n x)) (h : IsSo ν (EL a b i) false) : ∃ u w, xs[x.toNat]? = some u ∧ ys[x.toNat]? = some w ∧ viewL u ≠ viewL w := by
 obtain ⟨p, q, s1, s2, s3⟩ := so_and h
 obtain ⟨p0, p1, s4, s5, s6⟩ := so_and s1
 obtain ⟨p2, p3, s7, s8, s9⟩ := so_and s2
 obtain ⟨x0, y0, a1, a2, a3⟩ := so_eql s4
 obtain ⟨x1, y1, b1, b2, b3⟩ := so_eql s5
 obtain ⟨x2, y2, c1, c2, c3⟩ := so_eql s7
 obtain ⟨x3, y3, d1, d2, d3⟩ := so_eql s8
 obtain ⟨u, u1, u2⟩ := lc_of k1 k3 a1 b1 c1 d1
 obtain ⟨w, w1, w2⟩ := lc_of k2 k3 a2 b2 c2 d2
 refine ⟨u, w, u1, w1, fun he => ?_⟩
 rw [u2, w2] at he
 simp only [List.cons.injEq, and_true] at he
 obtain ⟨rfl, rfl, rfl, rfl⟩ := he
 simp at a3 b3 c3 d3
 subst a3 b3 c3 d3
 simp at s6 s9
 subst s6 s9
 simp at s3
theorem EL_rows {ν : Nm} {c : Bool} (h : IsSo ν (EL a b i) c) : ∃ e v xs e' v' ys, denT ν a = some (.r e v xs) ∧ denT ν b = some (.r e' v' ys) := by
 obtain ⟨p, q, s1, s2, s3⟩ := so_and h
 obtain ⟨p0, p1, s4, s5, s6⟩ := so_and s1
 obtain ⟨x0, y0, a1, a2, a3⟩ := so_eql s4
 obtain ⟨e, v, xs, h1⟩ := row_cell a1
 obtain ⟨e', v', ys, h2⟩ := row_cell a2
 exact ⟨_, _, _, _, _, _, h1, h2⟩
theorem lemPn_d : LemDIs (lemPn a b i) := fun ν hs => by
 obtain ⟨h1, h2, h3, h4, h5, _⟩ := hs
 obtain ⟨e, v, xs, e', v', ys, k1, k2⟩ := EL_rows h1
 obtain ⟨d, l, x, g0, g1, g2, g3, g4, g5⟩ := place_of h5 h4
 obtain ⟨u, w, u1, w1, hne⟩ := EL_no k1 k2 g4 h1
 refine so_b01_mk (den_SAMEL k1 k2) (decide_eq_false fun he => hne ?_)
 have e1 : (xs.map viewL)[x.toNat]? = some (viewL u) := by simp [u1]
 have e2 : (ys.map viewL)[x.toNat]? = some (viewL w) := by simp [w1]
 rw [he, e2] at e1
 injection e1 with e1
 exact e1.symm
end
end Go.Proofs.YtcjbpaiomcfgnaaGreatDoor
namespace Go.Proofs.YtcjbpaiomcfgnaaGreatDoor
open Go
section
variable {ν : Nm} {a b t r i : Tm}
theorem lineB_len (d : Dat) : (lineB d).length ≤ 36 := flatNB_len (viewL d)
theorem lim36_den {c : Bool} {x : Int} (hi : denT ν i = some (.n x)) (h0 : 0 ≤ x) (h1 : x ≤ 1000) (h : IsSo ν (lim36 t i) c) : ∃ d l, denT ν t = some d ∧ lenDat d = some l ∧ decide ((l : Int) ≤ 110000 + 36 * x) = c := by
 obtain ⟨p, q, k1, k2, k3⟩ := so_leq h
 obtain ⟨d, l, g1, g2, g3⟩ := len_row k1
 obtain ⟨u, w, e1, e2, e3⟩ := den_add k2
 obtain ⟨y, z, f1, f2, f3⟩ := den_mul e2
 have q1 := den_c e1; have q2 := den_c f1; have q3 := den_one hi f2
 subst q1 q2 q3
 rw [i64_in (by omega) (by omega)] at f3
 subst f3
 rw [i64_in (by omega) (by omega)] at e3
 subst e3 g3
 exact ⟨d, l, g1, g2, k3⟩
theorem lemS1_is : LemIs (lemS1 t r i) := fun ν hs c hb => by
 obtain ⟨h1, h2, h3, h4, _⟩ := hs
 obtain ⟨dr, l, x, k0, k1, k2, k3, k4, k5⟩ := place_of h4 h2
 have k6 := tru (lt_of h3 k3 k4) rfl
 obtain ⟨d, m, g1, g2, g3⟩ := lim36_den k4 k5 (by omega) h1
 obtain ⟨d', m', f1, f2, f3⟩ := lim36_den (add1_mk k4 k5 (by omega)) (by omega) (by omega) hb
 obtain ⟨e, v, xs, e1⟩ := line4_row f1
 obtain ⟨s, ln, q1, q2, q3⟩ := line4_den e1 k4 f1
 rw [g1] at q1
 injection q1 with q1
 subst q1 q3
 simp only [lenDat, Option.some.injEq] at g2 f2
 have := lineB_len ln
 have g4 := tru g3 rfl
 simp only [List.length_append] at f2
 rw [← f3]
 exact decide_eq_true (by omega)
theorem both_of {c : Bool} (h1 : IsSo ν (sz a).1 (sz a).2) (h2 : IsSo ν (sz b).1 (sz b).2) (h3 : IsSo ν (gt300 (both a b)).1 (gt300 (both a b)).2) : ∃ l m : Int, denT ν (LEN a) = some (.n l) ∧ denT ν (LEN b) = some (.n m) ∧ l ≤ 300 ∧ m ≤ 300 := by
 obtain ⟨l, c1, k1, k2, k3⟩ := so_leq h1
 obtain ⟨m, c2, g1, g2, g3⟩ := so_leq h2
 obtain ⟨s, c3, f1, f2, f3⟩ := so_gtr h3
 obtain ⟨p, q, e1, e2, e3⟩ := den_add f1
 obtain ⟨u, w, d1, d2, d3⟩ := den_add e1
 have q1 := den_c k2; have q2 := den_c g2; have q3 := den_c f2; have q4 := den_c d1
 have q5 := den_one k1 d2; have q6 := den_one g1 e2
 have t1 := tru k3 rfl; have t2 := tru g3 rfl; have t3 := fls f3 rfl
 obtain ⟨_, l', _, _, r1⟩ := len_row k1
 obtain ⟨_, m', _, _, r2⟩ := len_row g1
 subst q1 q2 q3 q4 q5 q6 r1 r2
 rw [i64_in (by omega) (by omega)] at d3
 subst d3
 rw [i64_in (by omega) (by omega)] at e3
 subst e3
 exact ⟨l', m', k1, g1, by omega, by omega⟩
theorem lemG1_is : LemIs (lemG1 a b) := fun ν hs c hb => by
 obtain ⟨h1, h2, h3, _⟩ := hs
 obtain ⟨l, m, k1, k2, k3, k4⟩ := both_of (c := c) h1 h2 h3
 obtain ⟨p, q, g1, g2, g3⟩ := so_leq hb
 have := den_one k1 g1; have := den_c g2
 subst_vars
 exact decide_eq_true (by omega)
theorem lemG2_is : LemIs (lemG2 a b) := fun ν hs c hb => by
 obtain ⟨h1, h2, h3, _⟩ := hs
 obtain ⟨l, m, k1, k2, k3, k4⟩ := both_of (c := c) h1 h2 h3
 obtain ⟨p, q, g1, g2, g3⟩ := so_leq hb
 have := den_one k2 g1; have := den_c g2
 subst_vars
 exact decide_eq_true (by omega)
theorem lemAsk_ok : LemOk lemAsk :=
 lemOk_cons lemLt_is (lemOk_cons lemM1_is (lemOk_cons lemM2_is (lemOk_cons lemM0_is (lemOk_cons lemI_is (lemOk_cons lemP0_is (lemOk_cons lemP1_is (lemOk_cons lemPy_d.is (lemOk_cons lemPn_d.is lemOk_nil))))))))
theorem lemD0_ok : LemD lemD0 := lemD_cons lemPy_d (lemD_cons lemPn_d lemD_nil)
theorem head_den {p : Option Tm} {n : Tm} {l : List Tm} {d : Dat} (h : denT ν (match p with | some t => catN t (n :: l) | none => catN0 (n :: l)) = some d) : (l ≠ [] ∨ p ≠ none → ∃ (pre : List UInt8) (ns : List Int), denTs ν (n :: l) = some (ns.map .n) ∧ d = .s (pre ++ ns.flatMap NB) ∧ ∀ (u : Tm) (q : List UInt8), denT ν u = some (.s q) → denT ν (preT p u) = some (.s (pre ++ q))) := fun hl => by
 cases p with
 | some t =>
  rcases catN_den h with ⟨h, _⟩ | ⟨s, ns, h1, h2, h3⟩
  ·cases h
  ·exact ⟨s, ns, h2, h3, fun u q hu => den_f2.2 (.inl ⟨s, q, h1, hu, rfl⟩)⟩
 | none =>
  rcases catN_den (t := NUM n) h with ⟨rfl, h1⟩ | ⟨s, ns, h1, h2, h3⟩
  ·simp at hl
  ·obtain ⟨x, k1, k2⟩ := den_NUM.1 h1
   injection k2 with k2
   subst k2
   exact ⟨[], x :: ns, denTs_mk k1 h2, by simpa using h3, fun u q hu => hu⟩
theorem u32_den {t : Tm} {d : Dat} (h : denT ν (u32 t) = some d) : ∃ x, denT ν t = some (.n x) ∧ d = .n (IntKind.u32.wrap x) := den_conv.1 h
theorem map_n {ns ms : List Int} (h : ns.map Dat.n = ms.map Dat.n) : ns = ms := List.map_inj_right (fun x y h => by injection h) |>.1 h
theorem actNums_den {b : Nat} {ns : List Int} (h : denTs ν (actNums b) = some (ns.map .n)) : ∃ (n0 n1 n2 n3 n4 n5 n6 n7 n8 n9 n10 n11 n12 n13 n14 n15 n16 n17 n18 n19 : Int) (l : Nat) (d : Dat), denT ν (.x (b + 0)) = some (.n n0) ∧ denT ν (.x (b + 1)) = some (.n n1) ∧ denT ν (.x (b + 2)) = some (.n n2) ∧ denT ν (.x (b + 3)) = some (.n n3) ∧ denT ν (.x (b + 4)) = some (.n n4) ∧ denT ν (.x (b + 5)) = some (.n n5) ∧ denT ν (.x (b + 6)) = some (.n n6) ∧ denT ν (.x (b + 7)) = some (.n n7) ∧ denT ν (.x (b + 8)) = some (.n n8) ∧ denT ν (.x (b + 9)) = some (.n n9) ∧ denT ν (.x (b + 10)) = some (.n n10) ∧ denT ν (.x (b + 11)) = some (.n n11) ∧ denT ν (.x (b + 12)) = some (.n n12) ∧ denT ν (.x (b + 13)) = some (.n n13) ∧ denT ν (.x (b + 14)) = some (.n n14) ∧ denT ν (.x (b + 15)) = some (.n n15) ∧ denT ν (.x (b + 16)) = some (.n n16) ∧ denT ν (.x (b + 17)) = some (.n n17) ∧ denT ν (.x (b + 18)) = some (.n n18) ∧ denT ν (.x (b + 19)) = some (.n n19) ∧ denT ν (.x (b + 20)) = some d ∧ lenDat d = some l ∧ ns.flatMap NB = (preW [n0, n1, n2, n3, n4, n5, n6, n7, n8, n9, n10, n11, n12, n13, n14, n15, n16, n17, n18, n19]).flatMap NB ++ NB (IntKind.u32.wrap l) := by
 obtain ⟨d0, r0, a0, b0, e0⟩ := denTs_cons h
 obtain ⟨d1, r1, a1, b1, e1⟩ := denTs_cons b0
 obtain ⟨d2, r2, a2, b2, e2⟩ := denTs_cons b1
 obtain ⟨d3, r3, a3, b3, e3⟩ := denTs_cons b2
 obtain ⟨d4, r4, a4, b4, e4⟩ := denTs_cons b3
 obtain ⟨d5, r5, a5, b5, e5⟩ := denTs_cons b4
 obtain ⟨d6, r6, a6, b6, e6⟩ := denTs_cons b5
 obtain ⟨d7, r7, a7, b7, e7⟩ := denTs_cons b6
 obtain ⟨d8, r8, a8, b8, e8⟩ := denTs_cons b7
 obtain ⟨d9, r9, a9, b9, e9⟩ := denTs_cons b8
 obtain ⟨d10, r10, a10, b10, e10⟩ := denTs_cons b9
 obtain ⟨d11, r11, a11, b11, e11⟩ := denTs_cons b10
 obtain ⟨d12, r12, a12, b12, e12⟩ := denTs_cons b11
 obtain ⟨d13, r13, a13, b13, e13⟩ := denTs_cons b12
 obtain ⟨d14, r14, a14, b14, e14⟩ := denTs_cons b13
 obtain ⟨d15, r15, a15, b15, e15⟩ := denTs_cons b14
 obtain ⟨d16, r16, a16, b16, e16⟩ := denTs_cons b15
 obtain ⟨d17, r17, a17, b17, e17⟩ := denTs_cons b16
 obtain ⟨d18, r18, a18, b18, e18⟩ := denTs_cons b17
 obtain ⟨d19, r19, a19, b19, e19⟩ := denTs_cons b18
 obtain ⟨d20, r20, a20, b20, e20⟩ := denTs_cons b19
 have b20 := denTs_nil b20
 obtain ⟨n0, k0, rfl⟩ := u64_den a0
 obtain ⟨n1, k1, rfl⟩ := u64_den a1
 obtain ⟨n2, k2, rfl⟩ := u64_den a2
 obtain ⟨m3, c3, rfl⟩ := u64_den a3
 obtain ⟨n3, k3, q3⟩ := u32_den c3
 injection q3 with q3
 obtain ⟨n4, k4, rfl⟩ := u64_den a4
 obtain ⟨n5, k5, rfl⟩ := u64_den a5
 obtain ⟨n6, k6, rfl⟩ := u64_den a6
 obtain ⟨n7, k7, rfl⟩ := u64_den a7
 obtain ⟨n8, k8, rfl⟩ := u64_den a8
 obtain ⟨n9, k9, rfl⟩ := u64_den a9
 obtain ⟨m10, c10, rfl⟩ := u64_den a10
 obtain ⟨n10, k10, q10⟩ := u32_den c10
 injection q10 with q10
 obtain ⟨m11, c11, rfl⟩ := u64_den a11
 obtain ⟨n11, k11, q11⟩ := u32_den c11
 injection q11 with q11
 obtain ⟨n13, k13, rfl⟩ := u64_den a13
 obtain ⟨n14, k14, rfl⟩ := u64_den a14
 obtain ⟨n15, k15, rfl⟩ := u64_den a15
 obtain ⟨n16, k16, rfl⟩ := u64_den a16
 obtain ⟨n17, k17, rfl⟩ := u64_den a17
 obtain ⟨n18, k18, rfl⟩ := u64_den a18
 obtain ⟨n19, k19, rfl⟩ := u64_den a19
 obtain ⟨m20, c20, rfl⟩ := u64_den a20
 obtain ⟨n20, k20, q20⟩ := u32_den c20
 injection q20 with q20
 obtain ⟨d, l, g1, g2, g3⟩ := len_row k20
 subst b20 e20 e19 e18 e17 e16 e15 e14 e13 e12 e11 e10 e9 e8 e7 e6 e5 e4 e3 e2 e1
 subst q3 q10 q11 q20 g3
 obtain ⟨n12, rfl⟩ : ∃ n12, d12 = .n n12 := by
  have := congrArg (fun z : List Dat => z[12]?) e0
  simp only [List.getElem?_map, List.getElem?_cons_succ, List.getElem?_cons_zero] at this
  cases hh : ns[12]? with
  | none => rw [hh] at this; cases this
  | some z => rw [hh] at this; simp only [Option.map_some, Option.some.injEq] at this; exact ⟨z, this.symm⟩
 have e0 : ns = [IntKind.u64.wrap n0, IntKind.u64.wrap n1, IntKind.u64.wrap n2, IntKind.u64.wrap (IntKind.u32.wrap n3), IntKind.u64.wrap n4, IntKind.u64.wrap n5, IntKind.u64.wrap n6, IntKind.u64.wrap n7, IntKind.u64.wrap n8, IntKind.u64.wrap n9, IntKind.u64.wrap (IntKind.u32.wrap n10), IntKind.u64.wrap (IntKind.u32.wrap n11), n12, IntKind.u64.wrap n13, IntKind.u64.wrap n14, IntKind.u64.wrap n15, IntKind.u64.wrap n16, IntKind.u64.wrap n17, IntKind.u64.wrap n18, IntKind.u64.wrap n19, IntKind.u64.wrap (IntKind.u32.wrap l)] := map_n e0
 subst e0
 refine ⟨n0, n1, n2, n3, n4, n5, n6, n7, n8, n9, n10, n11, n12, n13, n14, n15, n16, n17, n18, n19, l, d, k0, k1, k2, k3, k4, k5, k6, k7, k8, k9, k10, k11, a12, k13, k14, k15, k16, k17, k18, k19, g1, g2, ?_⟩
 simp only [preW, List.flatMap_cons, List.flatMap_nil, NB_wrap, List.append_nil, List.append_assoc]
theorem dNums_den {b : Nat} {ns : List Int} (h : denTs ν (dNums b) = some (ns.map .n)) : ∃ n21 n22 : Int, denT ν (.x (b + 21)) = some (.n n21) ∧ denT ν (.x (b + 22)) = some (.n n22) ∧ ns.flatMap NB = [n21, n22].flatMap NB := by
 obtain ⟨d0, r0, a0, b0, e0⟩ := denTs_cons h
 obtain ⟨d1, r1, a1, b1, e1⟩ := denTs_cons b0
 have b1 := denTs_nil b1
 obtain ⟨n21, k0, rfl⟩ := u64_den a0
 obtain ⟨n22, k1, rfl⟩ := u64_den a1
 subst b1 e1
 have e0 : ns = [IntKind.u64.wrap n21, IntKind.u64.wrap n22] := map_n e0
 subst e0
 exact ⟨n21, n22, k0, k1, by simp only [List.flatMap_cons, List.flatMap_nil, NB_wrap]⟩
theorem ACT_mk {b : Nat} {n0 n1 n2 n3 n4 n5 n6 n7 n8 n9 n10 n11 n12 n13 n14 n15 n16 n17 n18 n19 n21 n22 : Int} {e : TypeId} {v : Value} {xs : List Dat} (h0 : denT ν (.x (b + 0)) = some (.n n0)) (h1 : denT ν (.x (b + 1)) = some (.n n1)) (h2 : denT ν (.x (b + 2)) = some (.n n2)) (h3 : denT ν (.x (b + 3)) = some (.n n3)) (h4 : denT ν (.x (b + 4)) = some (.n n4)) (h5 : denT ν (.x (b + 5)) = some (.n n5)) (h6 : denT ν (.x (b + 6)) = some (.n n6)) (h7 : denT ν (.x (b + 7)) = some (.n n7)) (h8 : denT ν (.x (b + 8)) = some (.n n8)) (h9 : denT ν (.x (b + 9)) = some (.n n9)) (h10 : denT ν (.x (b + 10)) = some (.n n10)) (h11 : denT ν (.x (b + 11)) = some (.n n11)) (h12 : denT ν (.x (b + 12)) = some (.n n12)) (h13 : denT ν (.x (b + 13)) = some (.n n13)) (h14 : denT ν (.x (b + 14)) = some (.n n14)) (h15 : denT ν (.x (b + 15)) = some (.n n15)) (h16 : denT ν (.x (b + 16)) = some (.n n16)) (h17 : denT ν (.x (b + 17)) = some (.n n17)) (h18 : denT ν (.x (b + 18)) = some (.n n18)) (h19 : denT ν (.x (b + 19)) = some (.n n19)) (hr : denT ν (.x (b + 20)) = some (.r e v xs)) (h21 : denT ν (.x (b + 21)) = some (.n n21)) (h22 : denT ν (.x (b + 22)) = some (.n n22)) (hx : xs.length ≤ 300) : denT ν (ACT (actT b)) = some (.s (actB [n0, n1, n2, n3, n4, n5, n6, n7, n8, n9, n10, n11, n12, n13, n14, n15, n16, n17, n18, n19] xs [n21, n22])) := by
 refine (den_U (by omega)).2 ⟨_, (denTs_mk h0 (denTs_mk h1 (denTs_mk h2 (denTs_mk h3 (denTs_mk h4 (denTs_mk h5 (denTs_mk h6 (denTs_mk h7 (denTs_mk h8 (denTs_mk h9 (denTs_mk h10 (denTs_mk h11 (denTs_mk h12 (denTs_mk h13 (denTs_mk h14 (denTs_mk h15 (denTs_mk h16 (denTs_mk h17 (denTs_mk h18 (denTs_mk h19 (denTs_mk hr (denTs_mk h21 (denTs_mk h22 rfl))))))))))))))))))))))), ?_⟩
 show flatU (if xs.length ≤ 300 ∧ _ ∧ _ then _ else _) = _
 rw [if_pos ⟨hx, rfl, rfl⟩]
 rfl
theorem putEq_is {p : Option Tm} {b : Nat} {z : Bool} : TEqIs (putEq p b z) := fun ν hs d hd => by
 obtain ⟨h1, h2, h3, _⟩ := hs
 have key : ∃ pre ns : List UInt8, ∃ ms ls : List Int, denTs ν (actNums b) = some (ms.map .n) ∧ denTs ν (dNums b) = some (ls.map .n) ∧ (∀ (u : Tm) (q : List UInt8), denT ν u = some (.s q) → denT ν (preT p u) = some (.s (pre ++ q))) ∧ d = .s (pre ++ ms.flatMap NB ++ ns ++ ls.flatMap NB) ∧ (z = true → denT ν (LINES (.x (b + 20)) (.c 0)) = some (.s ns)) ∧ (z = false → ns = []) := by
  have hd : denT ν (putOut p b z) = some d := hd
  unfold putOut at hd
  rcases catN_den hd with ⟨h, _⟩ | ⟨s, ls, g1, g2, g3⟩
  ·cases h
  ·cases z with
   | true =>
    rcases den_f2.1 g1 with ⟨x, y, f1, f2, f3⟩ | ⟨x, y, f1, f2, f3⟩
    ·obtain ⟨pre, ms, e1, e2, e3⟩ := head_den f1 (.inl (by simp))
     injection e2 with e2
     injection f3 with f3
     subst e2 f3
     exact ⟨pre, y, ms, ls, e1, g2, e3, g3, fun _ => f2, fun h => by cases h⟩
    ·cases f3
   | false =>
    obtain ⟨pre, ms, e1, e2, e3⟩ := head_den g1 (.inl (by simp))
    injection e2 with e2
    subst e2
    exact ⟨pre, [], ms, ls, e1, g2, e3, by simpa using g3, fun h => (by cases h), fun _ => rfl⟩
 obtain ⟨pre, ns, ms, ls, k1, k2, k3, k4, k5, k6⟩ := key
 obtain ⟨n0, n1, n2, n3, n4, n5, n6, n7, n8, n9, n10, n11, n12, n13, n14, n15, n16, n17, n18, n19, l, dr, w0, w1, w2, w3, w4, w5, w6, w7, w8, w9, w10, w11, w12, w13, w14, w15, w16, w17, w18, w19, hr, hl, hm⟩ := actNums_den k1
 obtain ⟨n21, n22, w21, w22, hn⟩ := dNums_den k2
 obtain ⟨l2, c2, q1, q2, q3⟩ := so_leq h2
 obtain ⟨dr', m', g1, g2, g3⟩ := len_row q1
 rw [hr] at g1
 injection g1 with g1
 subst g1
 rw [hl] at g2
 injection g2 with g2
 subst g2 g3
 have q4 := den_c q2
 subst q4
 have q5 := tru q3 rfl
 have h1' := lt_of h1 q1 (i := .c 0) rfl
 obtain ⟨e, v, xs, hx⟩ := isRow_of h3
 rw [hr] at hx
 injection hx with hx
 subst hx
 have hl := lenDat_row hl
 subst hl
 have hns : ns = linesB xs := by
  cases z with
  | true =>
   obtain ⟨e', v', xs', m, f1, f2, f3, f4⟩ := den_LINES.1 (k5 rfl)
   rw [hr] at f1
   simp only [Option.some.injEq, Dat.r.injEq] at f1
   obtain ⟨_, _, rfl⟩ := f1
   have := den_c f2
   subst this
   injection f4
  | false =>
   have h0 := fls h1' rfl
   have : xs = [] := List.eq_nil_of_length_eq_zero (by omega)
   rw [k6 rfl, this]
   rfl
 have := k3 _ _ (ACT_mk w0 w1 w2 w3 w4 w5 w6 w7 w8 w9 w10 w11 w12 w13 w14 w15 w16 w17 w18 w19 hr w21 w22 (by omega))
 rw [k4, hns, hm, hn]
 show denT ν (preT p (ACT (actT b))) = _
 rw [this]
 simp only [actB, List.append_assoc]
end
end Go.Proofs.YtcjbpaiomcfgnaaGreatDoor
namespace Go.Proofs.YtcjbpaiomcfgnaaGreatDoor
open Go
section
variable {ν : Nm}
theorem neP_some {a b : Nat} {j : Nat} {k : IntKind} {c : Bool} {n m : Int} (h : IsSo ν (neP a b (j, some k)) c) (hn : denT ν (.x (a + j)) = some (.n n)) (hm : denT ν (.x (b + j)) = some (.n m)) : (!decide (n = m)) = c := by
 obtain ⟨x, y, h1, h2, h3⟩ := so_neq (show IsSo ν (.bin .neq k (.x (a + j)) (.x (b + j))) c from h)
 rw [den_one hn h1, den_one hm h2]
 exact h3
theorem neP_none {a b : Nat} {j : Nat} {c : Bool} {n m n' m' : Int} (h : IsSo ν (neP a b (j, none)) c) (hn : denT ν (.x (a + j)) = some (.n n)) (hm : denT ν (.x (b + j)) = some (.n m)) (hn' : denT ν (.x (a + j + 1)) = some (.n n')) (hm' : denT ν (.x (b + j + 1)) = some (.n m')) : (decide (n = m) && decide (n' = m')) = !c := by
 obtain ⟨p, q, h1, h2, h3⟩ := so_and (so_not (show IsSo ν (.f 10 [eqD (a + j) (b + j)]) c from h))
 obtain ⟨x, y, k1, k2, k3⟩ := so_eql h1
 obtain ⟨z, w, g1, g2, g3⟩ := so_eql h2
 rw [den_one hn k1, den_one hm k2, den_one hn' g1, den_one hm' g2, k3, g3]
 exact h3
theorem eqB_of {b c : Bool} {t : Tm} (h : denT ν t = some (b01 b)) (hb : b = c) : denT ν t = some (b01 c) := by rw [h, hb]
theorem c_b01 (c : Bool) {d : Dat} (h : denT ν (.c (if c = true then 1 else 0)) = some d) : d = b01 c := by
 simp only [denT, Option.some.injEq] at h
 rw [← h]
 rfl
theorem req_of {b : Nat} (h : AllSo ν (reqDef b)) : ∃ (n3 n4 n5 n6 n7 n8 n9 n10 n11 n12 n13 n14 n15 n16 n17 n18 n19 : Int) (e : TypeId) (v : Value) (xs : List Dat), denT ν (.x (b + 3)) = some (.n n3) ∧ denT ν (.x (b + 4)) = some (.n n4) ∧ denT ν (.x (b + 5)) = some (.n n5) ∧ denT ν (.x (b + 6)) = some (.n n6) ∧ denT ν (.x (b + 7)) = some (.n n7) ∧ denT ν (.x (b + 8)) = some (.n n8) ∧ denT ν (.x (b + 9)) = some (.n n9) ∧ denT ν (.x (b + 10)) = some (.n n10) ∧ denT ν (.x (b + 11)) = some (.n n11) ∧ denT ν (.x (b + 12)) = some (.n n12) ∧ denT ν (.x (b + 13)) = some (.n n13) ∧ denT ν (.x (b + 14)) = some (.n n14) ∧ denT ν (.x (b + 15)) = some (.n n15) ∧ denT ν (.x (b + 16)) = some (.n n16) ∧ denT ν (.x (b + 17)) = some (.n n17) ∧ denT ν (.x (b + 18)) = some (.n n18) ∧ denT ν (.x (b + 19)) = some (.n n19) ∧ denT ν (.x (b + 20)) = some (.r e v xs) := by
 obtain ⟨hr, h3, h4, h5, h6, h7, h8, h9, h10, h11, h12, h13, h14, h15, h16, h17, h18, h19, _⟩ := h
 obtain ⟨e, v, xs, hx⟩ := isRow_of hr
 obtain ⟨n3, _, k3, _⟩ := so_geq h3
 obtain ⟨n4, _, k4, _⟩ := so_geq h4
 obtain ⟨n5, _, k5, _⟩ := so_geq h5
 obtain ⟨n6, _, k6, _⟩ := so_geq h6
 obtain ⟨n7, _, k7, _⟩ := so_geq h7
 obtain ⟨n8, _, k8, _⟩ := so_geq h8
 obtain ⟨n9, _, k9, _⟩ := so_geq h9
 obtain ⟨n10, _, k10, _⟩ := so_geq h10
 obtain ⟨n11, _, k11, _⟩ := so_geq h11
 obtain ⟨n12, _, k12, _⟩ := so_geq h12
 obtain ⟨n13, _, k13, _⟩ := so_geq h13
 obtain ⟨n14, _, k14, _⟩ := so_geq h14
 obtain ⟨n15, _, k15, _⟩ := so_geq h15
 obtain ⟨n16, _, k16, _⟩ := so_geq h16
 obtain ⟨n17, _, k17, _⟩ := so_geq h17
 obtain ⟨n18, _, k18, _⟩ := so_geq h18
 obtain ⟨n19, _, k19, _⟩ := so_geq h19
 exact ⟨n3, n4, n5, n6, n7, n8, n9, n10, n11, n12, n13, n14, n15, n16, n17, n18, n19, e, v, xs, k3, k4, k5, k6, k7, k8, k9, k10, k11, k12, k13, k14, k15, k16, k17, k18, k19, hx⟩
theorem act_of {b : Nat} (h : AllSo ν (actDef b)) : ∃ (n0 n1 n2 n3 n4 n5 n6 n7 n8 n9 n10 n11 n12 n13 n14 n15 n16 n17 n18 n19 n21 n22 : Int) (e : TypeId) (v : Value) (xs : List Dat), denT ν (.x (b + 0)) = some (.n n0) ∧ denT ν (.x (b + 1)) = some (.n n1) ∧ denT ν (.x (b + 2)) = some (.n n2) ∧ denT ν (.x (b + 3)) = some (.n n3) ∧ denT ν (.x (b + 4)) = some (.n n4) ∧ denT ν (.x (b + 5)) = some (.n n5) ∧ denT ν (.x (b + 6)) = some (.n n6) ∧ denT ν (.x (b + 7)) = some (.n n7) ∧ denT ν (.x (b + 8)) = some (.n n8) ∧ denT ν (.x (b + 9)) = some (.n n9) ∧ denT ν (.x (b + 10)) = some (.n n10) ∧ denT ν (.x (b + 11)) = some (.n n11) ∧ denT ν (.x (b + 12)) = some (.n n12) ∧ denT ν (.x (b + 13)) = some (.n n13) ∧ denT ν (.x (b + 14)) = some (.n n14) ∧ denT ν (.x (b + 15)) = some (.n n15) ∧ denT ν (.x (b + 16)) = some (.n n16) ∧ denT ν (.x (b + 17)) = some (.n n17) ∧ denT ν (.x (b + 18)) = some (.n n18) ∧ denT ν (.x (b + 19)) = some (.n n19) ∧ denT ν (.x (b + 21)) = some (.n n21) ∧ denT ν (.x (b + 22)) = some (.n n22) ∧ denT ν (.x (b + 20)) = some (.r e v xs) := by
 obtain ⟨hr, h0, h1, h2, h3, h4, h5, h6, h7, h8, h9, h10, h11, h12, h13, h14, h15, h16, h17, h18, h19, h21, h22, _⟩ := h
 obtain ⟨e, v, xs, hx⟩ := isRow_of hr
 obtain ⟨n0, _, k0, _⟩ := so_geq h0
 obtain ⟨n1, _, k1, _⟩ := so_geq h1
 obtain ⟨n2, _, k2, _⟩ := so_geq h2
 obtain ⟨n3, _, k3, _⟩ := so_geq h3
 obtain ⟨n4, _, k4, _⟩ := so_geq h4
 obtain ⟨n5, _, k5, _⟩ := so_geq h5
 obtain ⟨n6, _, k6, _⟩ := so_geq h6
 obtain ⟨n7, _, k7, _⟩ := so_geq h7
 obtain ⟨n8, _, k8, _⟩ := so_geq h8
 obtain ⟨n9, _, k9, _⟩ := so_geq h9
 obtain ⟨n10, _, k10, _⟩ := so_geq h10
 obtain ⟨n11, _, k11, _⟩ := so_geq h11
 obtain ⟨n12, _, k12, _⟩ := so_geq h12
 obtain ⟨n13, _, k13, _⟩ := so_geq h13
 obtain ⟨n14, _, k14, _⟩ := so_geq h14
 obtain ⟨n15, _, k15, _⟩ := so_geq h15
 obtain ⟨n16, _, k16, _⟩ := so_geq h16
 obtain ⟨n17, _, k17, _⟩ := so_geq h17
 obtain ⟨n18, _, k18, _⟩ := so_geq h18
 obtain ⟨n19, _, k19, _⟩ := so_geq h19
 obtain ⟨n21, _, k21, _⟩ := so_geq h21
 obtain ⟨n22, _, k22, _⟩ := so_geq h22
 exact ⟨n0, n1, n2, n3, n4, n5, n6, n7, n8, n9, n10, n11, n12, n13, n14, n15, n16, n17, n18, n19, n21, n22, e, v, xs, k0, k1, k2, k3, k4, k5, k6, k7, k8, k9, k10, k11, k12, k13, k14, k15, k16, k17, k18, k19, k21, k22, hx⟩
theorem SAMEQ_den {a b : Nat} {n3 m3 n4 m4 n5 m5 n6 m6 n7 m7 n8 m8 n9 m9 n10 m10 n11 m11 n12 m12 n13 m13 n14 m14 n15 m15 n16 m16 n17 m17 n18 m18 n19 m19 : Int} {en em : TypeId} {vn vm : Value} {xs ys : List Dat} (hn3 : denT ν (.x (a + 3)) = some (.n n3)) (hn4 : denT ν (.x (a + 4)) = some (.n n4)) (hn5 : denT ν (.x (a + 5)) = some (.n n5)) (hn6 : denT ν (.x (a + 6)) = some (.n n6)) (hn7 : denT ν (.x (a + 7)) = some (.n n7)) (hn8 : denT ν (.x (a + 8)) = some (.n n8)) (hn9 : denT ν (.x (a + 9)) = some (.n n9)) (hn10 : denT ν (.x (a + 10)) = some (.n n10)) (hn11 : denT ν (.x (a + 11)) = some (.n n11)) (hn12 : denT ν (.x (a + 12)) = some (.n n12)) (hn13 : denT ν (.x (a + 13)) = some (.n n13)) (hn14 : denT ν (.x (a + 14)) = some (.n n14)) (hn15 : denT ν (.x (a + 15)) = some (.n n15)) (hn16 : denT ν (.x (a + 16)) = some (.n n16)) (hn17 : denT ν (.x (a + 17)) = some (.n n17)) (hn18 : denT ν (.x (a + 18)) = some (.n n18)) (hn19 : denT ν (.x (a + 19)) = some (.n n19)) (hn20 : denT ν (.x (a + 20)) = some (.r en vn xs)) (hm3 : denT ν (.x (b + 3)) = some (.n m3)) (hm4 : denT ν (.x (b + 4)) = some (.n m4)) (hm5 : denT ν (.x (b + 5)) = some (.n m5)) (hm6 : denT ν (.x (b + 6)) = some (.n m6)) (hm7 : denT ν (.x (b + 7)) = some (.n m7)) (hm8 : denT ν (.x (b + 8)) = some (.n m8)) (hm9 : denT ν (.x (b + 9)) = some (.n m9)) (hm10 : denT ν (.x (b + 10)) = some (.n m10)) (hm11 : denT ν (.x (b + 11)) = some (.n m11)) (hm12 : denT ν (.x (b + 12)) = some (.n m12)) (hm13 : denT ν (.x (b + 13)) = some (.n m13)) (hm14 : denT ν (.x (b + 14)) = some (.n m14)) (hm15 : denT ν (.x (b + 15)) = some (.n m15)) (hm16 : denT ν (.x (b + 16)) = some (.n m16)) (hm17 : denT ν (.x (b + 17)) = some (.n m17)) (hm18 : denT ν (.x (b + 18)) = some (.n m18)) (hm19 : denT ν (.x (b + 19)) = some (.n m19)) (hm20 : denT ν (.x (b + 20)) = some (.r em vm ys)) : denT ν (SAMEQ (reqT a ++ reqT b)) = some (b01 (decide ([n3, n4, n5, n6, n7, n8, n9, n10, n11, n12, n13, n14, n15, n16, n17, n18, n19] = [m3, m4, m5, m6, m7, m8, m9, m10, m11, m12, m13, m14, m15, m16, m17, m18, m19]) && decide (xs.map viewL = ys.map viewL) && decide (([] : List Int) = []))) :=
 (den_U (by omega)).2 ⟨_, (denTs_mk hn3 (denTs_mk hn4 (denTs_mk hn5 (denTs_mk hn6 (denTs_mk hn7 (denTs_mk hn8 (denTs_mk hn9 (denTs_mk hn10 (denTs_mk hn11 (denTs_mk hn12 (denTs_mk hn13 (denTs_mk hn14 (denTs_mk hn15 (denTs_mk hn16 (denTs_mk hn17 (denTs_mk hn18 (denTs_mk hn19 (denTs_mk hn20 (denTs_mk hm3 (denTs_mk hm4 (denTs_mk hm5 (denTs_mk hm6 (denTs_mk hm7 (denTs_mk hm8 (denTs_mk hm9 (denTs_mk hm10 (denTs_mk hm11 (denTs_mk hm12 (denTs_mk hm13 (denTs_mk hm14 (denTs_mk hm15 (denTs_mk hm16 (denTs_mk hm17 (denTs_mk hm18 (denTs_mk hm19 (denTs_mk hm20 rfl)))))))))))))))))))))))))))))))))))), rfl⟩
theorem SAMEA_den {a b : Nat} {n0 m0 n1 m1 n2 m2 n3 m3 n4 m4 n5 m5 n6 m6 n7 m7 n8 m8 n9 m9 n10 m10 n11 m11 n12 m12 n13 m13 n14 m14 n15 m15 n16 m16 n17 m17 n18 m18 n19 m19 n21 m21 n22 m22 : Int} {en em : TypeId} {vn vm : Value} {xs ys : List Dat} (hn0 : denT ν (.x (a + 0)) = some (.n n0)) (hn1 : denT ν (.x (a + 1)) = some (.n n1)) (hn2 : denT ν (.x (a + 2)) = some (.n n2)) (hn3 : denT ν (.x (a + 3)) = some (.n n3)) (hn4 : denT ν (.x (a + 4)) = some (.n n4)) (hn5 : denT ν (.x (a + 5)) = some (.n n5)) (hn6 : denT ν (.x (a + 6)) = some (.n n6)) (hn7 : denT ν (.x (a + 7)) = some (.n n7)) (hn8 : denT ν (.x (a + 8)) = some (.n n8)) (hn9 : denT ν (.x (a + 9)) = some (.n n9)) (hn10 : denT ν (.x (a + 10)) = some (.n n10)) (hn11 : denT ν (.x (a + 11)) = some (.n n11)) (hn12 : denT ν (.x (a + 12)) = some (.n n12)) (hn13 : denT ν (.x (a + 13)) = some (.n n13)) (hn14 : denT ν (.x (a + 14)) = some (.n n14)) (hn15 : denT ν (.x (a + 15)) = some (.n n15)) (hn16 : denT ν (.x (a + 16)) = some (.n n16)) (hn17 : denT ν (.x (a + 17)) = some (.n n17)) (hn18 : denT ν (.x (a + 18)) = some (.n n18)) (hn19 : denT ν (.x (a + 19)) = some (.n n19)) (hn20 : denT ν (.x (a + 20)) = some (.r en vn xs)) (hn21 : denT ν (.x (a + 21)) = some (.n n21)) (hn22 : denT ν (.x (a + 22)) = some (.n n22)) (hm0 : denT ν (.x (b + 0)) = some (.n m0)) (hm1 : denT ν (.x (b + 1)) = some (.n m1)) (hm2 : denT ν (.x (b + 2)) = some (.n m2)) (hm3 : denT ν (.x (b + 3)) = some (.n m3)) (hm4 : denT ν (.x (b + 4)) = some (.n m4)) (hm5 : denT ν (.x (b + 5)) = some (.n m5)) (hm6 : denT ν (.x (b + 6)) = some (.n m6)) (hm7 : denT ν (.x (b + 7)) = some (.n m7)) (hm8 : denT ν (.x (b + 8)) = some (.n m8)) (hm9 : denT ν (.x (b + 9)) = some (.n m9)) (hm10 : denT ν (.x (b + 10)) = some (.n m10)) (hm11 : denT ν (.x (b + 11)) = some (.n m11)) (hm12 : denT ν (.x (b + 12)) = some (.n m12)) (hm13 : denT ν (.x (b + 13)) = some (.n m13)) (hm14 : denT ν (.x (b + 14)) = some (.n m14)) (hm15 : denT ν (.x (b + 15)) = some (.n m15)) (hm16 : denT ν (.x (b + 16)) = some (.n m16)) (hm17 : denT ν (.x (b + 17)) = some (.n m17)) (hm18 : denT ν (.x (b + 18)) = some (.n m18)) (hm19 : denT ν (.x (b + 19)) = some (.n m19)) (hm20 : denT ν (.x (b + 20)) = some (.r em vm ys)) (hm21 : denT ν (.x (b + 21)) = some (.n m21)) (hm22 : denT ν (.x (b + 22)) = some (.n m22)) : denT ν (SAMEA (actT a ++ actT b)) = some (b01 (decide ([n0, n1, n2, n3, n4, n5, n6, n7, n8, n9, n10, n11, n12, n13, n14, n15, n16, n17, n18, n19] = [m0, m1, m2, m3, m4, m5, m6, m7, m8, m9, m10, m11, m12, m13, m14, m15, m16, m17, m18, m19]) && decide (xs.map viewL = ys.map viewL) && decide ([n21, n22] = [m21, m22]))) :=
 (den_U (by omega)).2 ⟨_, (denTs_mk hn0 (denTs_mk hn1 (denTs_mk hn2 (denTs_mk hn3 (denTs_mk hn4 (denTs_mk hn5 (denTs_mk hn6 (denTs_mk hn7 (denTs_mk hn8 (denTs_mk hn9 (denTs_mk hn10 (denTs_mk hn11 (denTs_mk hn12 (denTs_mk hn13 (denTs_mk hn14 (denTs_mk hn15 (denTs_mk hn16 (denTs_mk hn17 (denTs_mk hn18 (denTs_mk hn19 (denTs_mk hn20 (denTs_mk hn21 (denTs_mk hn22 (denTs_mk hm0 (denTs_mk hm1 (denTs_mk hm2 (denTs_mk hm3 (denTs_mk hm4 (denTs_mk hm5 (denTs_mk hm6 (denTs_mk hm7 (denTs_mk hm8 (denTs_mk hm9 (denTs_mk hm10 (denTs_mk hm11 (denTs_mk hm12 (denTs_mk hm13 (denTs_mk hm14 (denTs_mk hm15 (denTs_mk hm16 (denTs_mk hm17 (denTs_mk hm18 (denTs_mk hm19 (denTs_mk hm20 (denTs_mk hm21 (denTs_mk hm22 rfl)))))))))))))))))))))))))))))))))))))))))))))), rfl⟩
theorem askNo3 {a b : Nat} : TEqIs ⟨(neP a b (3, some .u8), true) :: (reqDef a ++ reqDef b), SAMEQ (reqT a ++ reqT b), .c 0⟩ := fun ν hs d hd => by
 obtain ⟨h1, hd2⟩ := hs
 obtain ⟨ha, hb⟩ := all_app hd2
 obtain ⟨n3, n4, n5, n6, n7, n8, n9, n10, n11, n12, n13, n14, n15, n16, n17, n18, n19, en, vn, xs, hn3, hn4, hn5, hn6, hn7, hn8, hn9, hn10, hn11, hn12, hn13, hn14, hn15, hn16, hn17, hn18, hn19, hn20⟩ := req_of ha
 obtain ⟨m3, m4, m5, m6, m7, m8, m9, m10, m11, m12, m13, m14, m15, m16, m17, m18, m19, em, vm, ys, hm3, hm4, hm5, hm6, hm7, hm8, hm9, hm10, hm11, hm12, hm13, hm14, hm15, hm16, hm17, hm18, hm19, hm20⟩ := req_of hb
 have key := SAMEQ_den hn3 hn4 hn5 hn6 hn7 hn8 hn9 hn10 hn11 hn12 hn13 hn14 hn15 hn16 hn17 hn18 hn19 hn20 hm3 hm4 hm5 hm6 hm7 hm8 hm9 hm10 hm11 hm12 hm13 hm14 hm15 hm16 hm17 hm18 hm19 hm20
 rw [c_b01 false hd]
 refine eqB_of key ?_
 have := neP_some h1 hn3 hm3
 rw [Bool.eq_false_iff]
 intro hh
 simp only [Bool.and_eq_true, decide_eq_true_eq, List.cons.injEq, and_true] at hh
 simp [hh] at this
theorem askNo4 {a b : Nat} : TEqIs ⟨(neP a b (4, some .u32), true) :: (reqDef a ++ reqDef b), SAMEQ (reqT a ++ reqT b), .c 0⟩ := fun ν hs d hd => by
 obtain ⟨h1, hd2⟩ := hs
 obtain ⟨ha, hb⟩ := all_app hd2
 obtain ⟨n3, n4, n5, n6, n7, n8, n9, n10, n11, n12, n13, n14, n15, n16, n17, n18, n19, en, vn, xs, hn3, hn4, hn5, hn6, hn7, hn8, hn9, hn10, hn11, hn12, hn13, hn14, hn15, hn16, hn17, hn18, hn19, hn20⟩ := req_of ha
 obtain ⟨m3, m4, m5, m6, m7, m8, m9, m10, m11, m12, m13, m14, m15, m16, m17, m18, m19, em, vm, ys, hm3, hm4, hm5, hm6, hm7, hm8, hm9, hm10, hm11, hm12, hm13, hm14, hm15, hm16, hm17, hm18, hm19, hm20⟩ := req_of hb
 have key := SAMEQ_den hn3 hn4 hn5 hn6 hn7 hn8 hn9 hn10 hn11 hn12 hn13 hn14 hn15 hn16 hn17 hn18 hn19 hn20 hm3 hm4 hm5 hm6 hm7 hm8 hm9 hm10 hm11 hm12 hm13 hm14 hm15 hm16 hm17 hm18 hm19 hm20
 rw [c_b01 false hd]
 refine eqB_of key ?_
 have := neP_some h1 hn4 hm4
 rw [Bool.eq_false_iff]
 intro hh
 simp only [Bool.and_eq_true, decide_eq_true_eq, List.cons.injEq, and_true] at hh
 simp [hh] at this
theorem askNo5 {a b : Nat} : TEqIs ⟨(neP a b (5, none), true) :: (reqDef a ++ reqDef b), SAMEQ (reqT a ++ reqT b), .c 0⟩ := fun ν hs d hd => by
 obtain ⟨h1, hd2⟩ := hs
 obtain ⟨ha, hb⟩ := all_app hd2
 obtain ⟨n3, n4, n5, n6, n7, n8, n9, n10, n11, n12, n13, n14, n15, n16, n17, n18, n19, en, vn, xs, hn3, hn4, hn5, hn6, hn7, hn8, hn9, hn10, hn11, hn12, hn13, hn14, hn15, hn16, hn17, hn18, hn19, hn20⟩ := req_of ha
 obtain ⟨m3, m4, m5, m6, m7, m8, m9, m10, m11, m12, m13, m14, m15, m16, m17, m18, m19, em, vm, ys, hm3, hm4, hm5, hm6, hm7, hm8, hm9, hm10, hm11, hm12, hm13, hm14, hm15, hm16, hm17, hm18, hm19, hm20⟩ := req_of hb
 have key := SAMEQ_den hn3 hn4 hn5 hn6 hn7 hn8 hn9 hn10 hn11 hn12 hn13 hn14 hn15 hn16 hn17 hn18 hn19 hn20 hm3 hm4 hm5 hm6 hm7 hm8 hm9 hm10 hm11 hm12 hm13 hm14 hm15 hm16 hm17 hm18 hm19 hm20
 rw [c_b01 false hd]
 refine eqB_of key ?_
 have := neP_none h1 hn5 hm5 hn6 hm6
 rw [Bool.eq_false_iff]
 intro hh
 simp only [Bool.and_eq_true, decide_eq_true_eq, List.cons.injEq, and_true] at hh
 simp [hh] at this
theorem askNo7 {a b : Nat} : TEqIs ⟨(neP a b (7, none), true) :: (reqDef a ++ reqDef b), SAMEQ (reqT a ++ reqT b), .c 0⟩ := fun ν hs d hd => by
 obtain ⟨h1, hd2⟩ := hs
 obtain ⟨ha, hb⟩ := all_app hd2
 obtain ⟨n3, n4, n5, n6, n7, n8, n9, n10, n11, n12, n13, n14, n15, n16, n17, n18, n19, en, vn, xs, hn3, hn4, hn5, hn6, hn7, hn8, hn9, hn10, hn11, hn12, hn13, hn14, hn15, hn16, hn17, hn18, hn19, hn20⟩ := req_of ha
 obtain ⟨m3, m4, m5, m6, m7, m8, m9, m10, m11, m12, m13, m14, m15, m16, m17, m18, m19, em, vm, ys, hm3, hm4, hm5, hm6, hm7, hm8, hm9, hm10, hm11, hm12, hm13, hm14, hm15, hm16, hm17, hm18, hm19, hm20⟩ := req_of hb
 have key := SAMEQ_den hn3 hn4 hn5 hn6 hn7 hn8 hn9 hn10 hn11 hn12 hn13 hn14 hn15 hn16 hn17 hn18 hn19 hn20 hm3 hm4 hm5 hm6 hm7 hm8 hm9 hm10 hm11 hm12 hm13 hm14 hm15 hm16 hm17 hm18 hm19 hm20
 rw [c_b01 false hd]
 refine eqB_of key ?_
 have := neP_none h1 hn7 hm7 hn8 hm8
 rw [Bool.eq_false_iff]
 intro hh
 simp only [Bool.and_eq_true, decide_eq_true_eq, List.cons.injEq, and_true] at hh
 simp [hh] at this
theorem askNo9 {a b : Nat} : TEqIs ⟨(neP a b (9, some .u32), true) :: (reqDef a ++ reqDef b), SAMEQ (reqT a ++ reqT b), .c 0⟩ := fun ν hs d hd => by
 obtain ⟨h1, hd2⟩ := hs
 obtain ⟨ha, hb⟩ := all_app hd2
 obtain ⟨n3, n4, n5, n6, n7, n8, n9, n10, n11, n12, n13, n14, n15, n16, n17, n18, n19, en, vn, xs, hn3, hn4, hn5, hn6, hn7, hn8, hn9, hn10, hn11, hn12, hn13, hn14, hn15, hn16, hn17, hn18, hn19, hn20⟩ := req_of ha
 obtain ⟨m3, m4, m5, m6, m7, m8, m9, m10, m11, m12, m13, m14, m15, m16, m17, m18, m19, em, vm, ys, hm3, hm4, hm5, hm6, hm7, hm8, hm9, hm10, hm11, hm12, hm13, hm14, hm15, hm16, hm17, hm18, hm19, hm20⟩ := req_of hb
 have key := SAMEQ_den hn3 hn4 hn5 hn6 hn7 hn8 hn9 hn10 hn11 hn12 hn13 hn14 hn15 hn16 hn17 hn18 hn19 hn20 hm3 hm4 hm5 hm6 hm7 hm8 hm9 hm10 hm11 hm12 hm13 hm14 hm15 hm16 hm17 hm18 hm19 hm20
 rw [c_b01 false hd]
 refine eqB_of key ?_
 have := neP_some h1 hn9 hm9
 rw [Bool.eq_false_iff]
 intro hh
 simp only [Bool.and_eq_true, decide_eq_true_eq, List.cons.injEq, and_true] at hh
 simp [hh] at this
theorem askNo10 {a b : Nat} : TEqIs ⟨(neP a b (10, some .u8), true) :: (reqDef a ++ reqDef b), SAMEQ (reqT a ++ reqT b), .c 0⟩ := fun ν hs d hd => by
 obtain ⟨h1, hd2⟩ := hs
 obtain ⟨ha, hb⟩ := all_app hd2
 obtain ⟨n3, n4, n5, n6, n7, n8, n9, n10, n11, n12, n13, n14, n15, n16, n17, n18, n19, en, vn, xs, hn3, hn4, hn5, hn6, hn7, hn8, hn9, hn10, hn11, hn12, hn13, hn14, hn15, hn16, hn17, hn18, hn19, hn20⟩ := req_of ha
 obtain ⟨m3, m4, m5, m6, m7, m8, m9, m10, m11, m12, m13, m14, m15, m16, m17, m18, m19, em, vm, ys, hm3, hm4, hm5, hm6, hm7, hm8, hm9, hm10, hm11, hm12, hm13, hm14, hm15, hm16, hm17, hm18, hm19, hm20⟩ := req_of hb
 have key := SAMEQ_den hn3 hn4 hn5 hn6 hn7 hn8 hn9 hn10 hn11 hn12 hn13 hn14 hn15 hn16 hn17 hn18 hn19 hn20 hm3 hm4 hm5 hm6 hm7 hm8 hm9 hm10 hm11 hm12 hm13 hm14 hm15 hm16 hm17 hm18 hm19 hm20
 rw [c_b01 false hd]
 refine eqB_of key ?_
 have := neP_some h1 hn10 hm10
 rw [Bool.eq_false_iff]
 intro hh
 simp only [Bool.and_eq_true, decide_eq_true_eq, List.cons.injEq, and_true] at hh
 simp [hh] at this
theorem askNo11 {a b : Nat} : TEqIs ⟨(neP a b (11, some .u8), true) :: (reqDef a ++ reqDef b), SAMEQ (reqT a ++ reqT b), .c 0⟩ := fun ν hs d hd => by
 obtain ⟨h1, hd2⟩ := hs
 obtain ⟨ha, hb⟩ := all_app hd2
 obtain ⟨n3, n4, n5, n6, n7, n8, n9, n10, n11, n12, n13, n14, n15, n16, n17, n18, n19, en, vn, xs, hn3, hn4, hn5, hn6, hn7, hn8, hn9, hn10, hn11, hn12, hn13, hn14, hn15, hn16, hn17, hn18, hn19, hn20⟩ := req_of ha
 obtain ⟨m3, m4, m5, m6, m7, m8, m9, m10, m11, m12, m13, m14, m15, m16, m17, m18, m19, em, vm, ys, hm3, hm4, hm5, hm6, hm7, hm8, hm9, hm10, hm11, hm12, hm13, hm14, hm15, hm16, hm17, hm18, hm19, hm20⟩ := req_of hb
 have key := SAMEQ_den hn3 hn4 hn5 hn6 hn7 hn8 hn9 hn10 hn11 hn12 hn13 hn14 hn15 hn16 hn17 hn18 hn19 hn20 hm3 hm4 hm5 hm6 hm7 hm8 hm9 hm10 hm11 hm12 hm13 hm14 hm15 hm16 hm17 hm18 hm19 hm20
 rw [c_b01 false hd]
 refine eqB_of key ?_
 have := neP_some h1 hn11 hm11
 rw [Bool.eq_false_iff]
 intro hh
 simp only [Bool.and_eq_true, decide_eq_true_eq, List.cons.injEq, and_true] at hh
 simp [hh] at this
theorem askNo12 {a b : Nat} : TEqIs ⟨(neP a b (12, some .u64), true) :: (reqDef a ++ reqDef b), SAMEQ (reqT a ++ reqT b), .c 0⟩ := fun ν hs d hd => by
 obtain ⟨h1, hd2⟩ := hs
 obtain ⟨ha, hb⟩ := all_app hd2
 obtain ⟨n3, n4, n5, n6, n7, n8, n9, n10, n11, n12, n13, n14, n15, n16, n17, n18, n19, en, vn, xs, hn3, hn4, hn5, hn6, hn7, hn8, hn9, hn10, hn11, hn12, hn13, hn14, hn15, hn16, hn17, hn18, hn19, hn20⟩ := req_of ha
 obtain ⟨m3, m4, m5, m6, m7, m8, m9, m10, m11, m12, m13, m14, m15, m16, m17, m18, m19, em, vm, ys, hm3, hm4, hm5, hm6, hm7, hm8, hm9, hm10, hm11, hm12, hm13, hm14, hm15, hm16, hm17, hm18, hm19, hm20⟩ := req_of hb
 have key := SAMEQ_den hn3 hn4 hn5 hn6 hn7 hn8 hn9 hn10 hn11 hn12 hn13 hn14 hn15 hn16 hn17 hn18 hn19 hn20 hm3 hm4 hm5 hm6 hm7 hm8 hm9 hm10 hm11 hm12 hm13 hm14 hm15 hm16 hm17 hm18 hm19 hm20
 rw [c_b01 false hd]
 refine eqB_of key ?_
 have := neP_some h1 hn12 hm12
 rw [Bool.eq_false_iff]
 intro hh
 simp only [Bool.and_eq_true, decide_eq_true_eq, List.cons.injEq, and_true] at hh
 simp [hh] at this
theorem askNo13 {a b : Nat} : TEqIs ⟨(neP a b (13, none), true) :: (reqDef a ++ reqDef b), SAMEQ (reqT a ++ reqT b), .c 0⟩ := fun ν hs d hd => by
 obtain ⟨h1, hd2⟩ := hs
 obtain ⟨ha, hb⟩ := all_app hd2
 obtain ⟨n3, n4, n5, n6, n7, n8, n9, n10, n11, n12, n13, n14, n15, n16, n17, n18, n19, en, vn, xs, hn3, hn4, hn5, hn6, hn7, hn8, hn9, hn10, hn11, hn12, hn13, hn14, hn15, hn16, hn17, hn18, hn19, hn20⟩ := req_of ha
 obtain ⟨m3, m4, m5, m6, m7, m8, m9, m10, m11, m12, m13, m14, m15, m16, m17, m18, m19, em, vm, ys, hm3, hm4, hm5, hm6, hm7, hm8, hm9, hm10, hm11, hm12, hm13, hm14, hm15, hm16, hm17, hm18, hm19, hm20⟩ := req_of hb
 have key := SAMEQ_den hn3 hn4 hn5 hn6 hn7 hn8 hn9 hn10 hn11 hn12 hn13 hn14 hn15 hn16 hn17 hn18 hn19 hn20 hm3 hm4 hm5 hm6 hm7 hm8 hm9 hm10 hm11 hm12 hm13 hm14 hm15 hm16 hm17 hm18 hm19 hm20
 rw [c_b01 false hd]
 refine eqB_of key ?_
 have := neP_none h1 hn13 hm13 hn14 hm14
 rw [Bool.eq_false_iff]
 intro hh
 simp only [Bool.and_eq_true, decide_eq_true_eq, List.cons.injEq, and_true] at hh
 simp [hh] at this
theorem askNo15 {a b : Nat} : TEqIs ⟨(neP a b (15, none), true) :: (reqDef a ++ reqDef b), SAMEQ (reqT a ++ reqT b), .c 0⟩ := fun ν hs d hd => by
 obtain ⟨h1, hd2⟩ := hs
 obtain ⟨ha, hb⟩ := all_app hd2
 obtain ⟨n3, n4, n5, n6, n7, n8, n9, n10, n11, n12, n13, n14, n15, n16, n17, n18, n19, en, vn, xs, hn3, hn4, hn5, hn6, hn7, hn8, hn9, hn10, hn11, hn12, hn13, hn14, hn15, hn16, hn17, hn18, hn19, hn20⟩ := req_of ha
 obtain ⟨m3, m4, m5, m6, m7, m8, m9, m10, m11, m12, m13, m14, m15, m16, m17, m18, m19, em, vm, ys, hm3, hm4, hm5, hm6, hm7, hm8, hm9, hm10, hm11, hm12, hm13, hm14, hm15, hm16, hm17, hm18, hm19, hm20⟩ := req_of hb
 have key := SAMEQ_den hn3 hn4 hn5 hn6 hn7 hn8 hn9 hn10 hn11 hn12 hn13 hn14 hn15 hn16 hn17 hn18 hn19 hn20 hm3 hm4 hm5 hm6 hm7 hm8 hm9 hm10 hm11 hm12 hm13 hm14 hm15 hm16 hm17 hm18 hm19 hm20
 rw [c_b01 false hd]
 refine eqB_of key ?_
 have := neP_none h1 hn15 hm15 hn16 hm16
 rw [Bool.eq_false_iff]
 intro hh
 simp only [Bool.and_eq_true, decide_eq_true_eq, List.cons.injEq, and_true] at hh
 simp [hh] at this
theorem askNo17 {a b : Nat} : TEqIs ⟨(neP a b (17, some .u32), true) :: (reqDef a ++ reqDef b), SAMEQ (reqT a ++ reqT b), .c 0⟩ := fun ν hs d hd => by
 obtain ⟨h1, hd2⟩ := hs
 obtain ⟨ha, hb⟩ := all_app hd2
 obtain ⟨n3, n4, n5, n6, n7, n8, n9, n10, n11, n12, n13, n14, n15, n16, n17, n18, n19, en, vn, xs, hn3, hn4, hn5, hn6, hn7, hn8, hn9, hn10, hn11, hn12, hn13, hn14, hn15, hn16, hn17, hn18, hn19, hn20⟩ := req_of ha
 obtain ⟨m3, m4, m5, m6, m7, m8, m9, m10, m11, m12, m13, m14, m15, m16, m17, m18, m19, em, vm, ys, hm3, hm4, hm5, hm6, hm7, hm8, hm9, hm10, hm11, hm12, hm13, hm14, hm15, hm16, hm17, hm18, hm19, hm20⟩ := req_of hb
 have key := SAMEQ_den hn3 hn4 hn5 hn6 hn7 hn8 hn9 hn10 hn11 hn12 hn13 hn14 hn15 hn16 hn17 hn18 hn19 hn20 hm3 hm4 hm5 hm6 hm7 hm8 hm9 hm10 hm11 hm12 hm13 hm14 hm15 hm16 hm17 hm18 hm19 hm20
 rw [c_b01 false hd]
 refine eqB_of key ?_
 have := neP_some h1 hn17 hm17
 rw [Bool.eq_false_iff]
 intro hh
 simp only [Bool.and_eq_true, decide_eq_true_eq, List.cons.injEq, and_true] at hh
 simp [hh] at this
theorem askNo18 {a b : Nat} : TEqIs ⟨(neP a b (18, some .u32), true) :: (reqDef a ++ reqDef b), SAMEQ (reqT a ++ reqT b), .c 0⟩ := fun ν hs d hd => by
 obtain ⟨h1, hd2⟩ := hs
 obtain ⟨ha, hb⟩ := all_app hd2
 obtain ⟨n3, n4, n5, n6, n7, n8, n9, n10, n11, n12, n13, n14, n15, n16, n17, n18, n19, en, vn, xs, hn3, hn4, hn5, hn6, hn7, hn8, hn9, hn10, hn11, hn12, hn13, hn14, hn15, hn16, hn17, hn18, hn19, hn20⟩ := req_of ha
 obtain ⟨m3, m4, m5, m6, m7, m8, m9, m10, m11, m12, m13, m14, m15, m16, m17, m18, m19, em, vm, ys, hm3, hm4, hm5, hm6, hm7, hm8, hm9, hm10, hm11, hm12, hm13, hm14, hm15, hm16, hm17, hm18, hm19, hm20⟩ := req_of hb
 have key := SAMEQ_den hn3 hn4 hn5 hn6 hn7 hn8 hn9 hn10 hn11 hn12 hn13 hn14 hn15 hn16 hn17 hn18 hn19 hn20 hm3 hm4 hm5 hm6 hm7 hm8 hm9 hm10 hm11 hm12 hm13 hm14 hm15 hm16 hm17 hm18 hm19 hm20
 rw [c_b01 false hd]
 refine eqB_of key ?_
 have := neP_some h1 hn18 hm18
 rw [Bool.eq_false_iff]
 intro hh
 simp only [Bool.and_eq_true, decide_eq_true_eq, List.cons.injEq, and_true] at hh
 simp [hh] at this
theorem askNo19 {a b : Nat} : TEqIs ⟨(neP a b (19, some .u32), true) :: (reqDef a ++ reqDef b), SAMEQ (reqT a ++ reqT b), .c 0⟩ := fun ν hs d hd => by
 obtain ⟨h1, hd2⟩ := hs
 obtain ⟨ha, hb⟩ := all_app hd2
 obtain ⟨n3, n4, n5, n6, n7, n8, n9, n10, n11, n12, n13, n14, n15, n16, n17, n18, n19, en, vn, xs, hn3, hn4, hn5, hn6, hn7, hn8, hn9, hn10, hn11, hn12, hn13, hn14, hn15, hn16, hn17, hn18, hn19, hn20⟩ := req_of ha
 obtain ⟨m3, m4, m5, m6, m7, m8, m9, m10, m11, m12, m13, m14, m15, m16, m17, m18, m19, em, vm, ys, hm3, hm4, hm5, hm6, hm7, hm8, hm9, hm10, hm11, hm12, hm13, hm14, hm15, hm16, hm17, hm18, hm19, hm20⟩ := req_of hb
 have key := SAMEQ_den hn3 hn4 hn5 hn6 hn7 hn8 hn9 hn10 hn11 hn12 hn13 hn14 hn15 hn16 hn17 hn18 hn19 hn20 hm3 hm4 hm5 hm6 hm7 hm8 hm9 hm10 hm11 hm12 hm13 hm14 hm15 hm16 hm17 hm18 hm19 hm20
 rw [c_b01 false hd]
 refine eqB_of key ?_
 have := neP_some h1 hn19 hm19
 rw [Bool.eq_false_iff]
 intro hh
 simp only [Bool.and_eq_true, decide_eq_true_eq, List.cons.injEq, and_true] at hh
 simp [hh] at this
theorem actNo0 {a b : Nat} : TEqIs ⟨(neP a b (0, some .u8), true) :: (actDef a ++ actDef b), SAMEA (actT a ++ actT b), .c 0⟩ := fun ν hs d hd => by
 obtain ⟨h1, hd2⟩ := hs
 obtain ⟨ha, hb⟩ := all_app hd2
 obtain ⟨n0, n1, n2, n3, n4, n5, n6, n7, n8, n9, n10, n11, n12, n13, n14, n15, n16, n17, n18, n19, n21, n22, en, vn, xs, hn0, hn1, hn2, hn3, hn4, hn5, hn6, hn7, hn8, hn9, hn10, hn11, hn12, hn13, hn14, hn15, hn16, hn17, hn18, hn19, hn21, hn22, hn20⟩ := act_of ha
 obtain ⟨m0, m1, m2, m3, m4, m5, m6, m7, m8, m9, m10, m11, m12, m13, m14, m15, m16, m17, m18, m19, m21, m22, em, vm, ys, hm0, hm1, hm2, hm3, hm4, hm5, hm6, hm7, hm8, hm9, hm10, hm11, hm12, hm13, hm14, hm15, hm16, hm17, hm18, hm19, hm21, hm22, hm20⟩ := act_of hb
 have key := SAMEA_den hn0 hn1 hn2 hn3 hn4 hn5 hn6 hn7 hn8 hn9 hn10 hn11 hn12 hn13 hn14 hn15 hn16 hn17 hn18 hn19 hn20 hn21 hn22 hm0 hm1 hm2 hm3 hm4 hm5 hm6 hm7 hm8 hm9 hm10 hm11 hm12 hm13 hm14 hm15 hm16 hm17 hm18 hm19 hm20 hm21 hm22
 rw [c_b01 false hd]
 refine eqB_of key ?_
 have := neP_some h1 hn0 hm0
 rw [Bool.eq_false_iff]
 intro hh
 simp only [Bool.and_eq_true, decide_eq_true_eq, List.cons.injEq, and_true] at hh
 simp [hh] at this
theorem actNo1 {a b : Nat} : TEqIs ⟨(neP a b (1, some .u8), true) :: (actDef a ++ actDef b), SAMEA (actT a ++ actT b), .c 0⟩ := fun ν hs d hd => by
 obtain ⟨h1, hd2⟩ := hs
 obtain ⟨ha, hb⟩ := all_app hd2
 obtain ⟨n0, n1, n2, n3, n4, n5, n6, n7, n8, n9, n10, n11, n12, n13, n14, n15, n16, n17, n18, n19, n21, n22, en, vn, xs, hn0, hn1, hn2, hn3, hn4, hn5, hn6, hn7, hn8, hn9, hn10, hn11, hn12, hn13, hn14, hn15, hn16, hn17, hn18, hn19, hn21, hn22, hn20⟩ := act_of ha
 obtain ⟨m0, m1, m2, m3, m4, m5, m6, m7, m8, m9, m10, m11, m12, m13, m14, m15, m16, m17, m18, m19, m21, m22, em, vm, ys, hm0, hm1, hm2, hm3, hm4, hm5, hm6, hm7, hm8, hm9, hm10, hm11, hm12, hm13, hm14, hm15, hm16, hm17, hm18, hm19, hm21, hm22, hm20⟩ := act_of hb
 have key := SAMEA_den hn0 hn1 hn2 hn3 hn4 hn5 hn6 hn7 hn8 hn9 hn10 hn11 hn12 hn13 hn14 hn15 hn16 hn17 hn18 hn19 hn20 hn21 hn22 hm0 hm1 hm2 hm3 hm4 hm5 hm6 hm7 hm8 hm9 hm10 hm11 hm12 hm13 hm14 hm15 hm16 hm17 hm18 hm19 hm20 hm21 hm22
 rw [c_b01 false hd]
 refine eqB_of key ?_
 have := neP_some h1 hn1 hm1
 rw [Bool.eq_false_iff]
 intro hh
 simp only [Bool.and_eq_true, decide_eq_true_eq, List.cons.injEq, and_true] at hh
 simp [hh] at this
theorem actNo2 {a b : Nat} : TEqIs ⟨(neP a b (2, some .i64), true) :: (actDef a ++ actDef b), SAMEA (actT a ++ actT b), .c 0⟩ := fun ν hs d hd => by
 obtain ⟨h1, hd2⟩ := hs
 obtain ⟨ha, hb⟩ := all_app hd2
 obtain ⟨n0, n1, n2, n3, n4, n5, n6, n7, n8, n9, n10, n11, n12, n13, n14, n15, n16, n17, n18, n19, n21, n22, en, vn, xs, hn0, hn1, hn2, hn3, hn4, hn5, hn6, hn7, hn8, hn9, hn10, hn11, hn12, hn13, hn14, hn15, hn16, hn17, hn18, hn19, hn21, hn22, hn20⟩ := act_of ha
 obtain ⟨m0, m1, m2, m3, m4, m5, m6, m7, m8, m9, m10, m11, m12, m13, m14, m15, m16, m17, m18, m19, m21, m22, em, vm, ys, hm0, hm1, hm2, hm3, hm4, hm5, hm6, hm7, hm8, hm9, hm10, hm11, hm12, hm13, hm14, hm15, hm16, hm17, hm18, hm19, hm21, hm22, hm20⟩ := act_of hb
 have key := SAMEA_den hn0 hn1 hn2 hn3 hn4 hn5 hn6 hn7 hn8 hn9 hn10 hn11 hn12 hn13 hn14 hn15 hn16 hn17 hn18 hn19 hn20 hn21 hn22 hm0 hm1 hm2 hm3 hm4 hm5 hm6 hm7 hm8 hm9 hm10 hm11 hm12 hm13 hm14 hm15 hm16 hm17 hm18 hm19 hm20 hm21 hm22
 rw [c_b01 false hd]
 refine eqB_of key ?_
 have := neP_some h1 hn2 hm2
 rw [Bool.eq_false_iff]
 intro hh
 simp only [Bool.and_eq_true, decide_eq_true_eq, List.cons.injEq, and_true] at hh
 simp [hh] at this
theorem actNo21 {a b : Nat} : TEqIs ⟨(neP a b (21, none), true) :: (actDef a ++ actDef b), SAMEA (actT a ++ actT b), .c 0⟩ := fun ν hs d hd => by
 obtain ⟨h1, hd2⟩ := hs
 obtain ⟨ha, hb⟩ := all_app hd2
 obtain ⟨n0, n1, n2, n3, n4, n5, n6, n7, n8, n9, n10, n11, n12, n13, n14, n15, n16, n17, n18, n19, n21, n22, en, vn, xs, hn0, hn1, hn2, hn3, hn4, hn5, hn6, hn7, hn8, hn9, hn10, hn11, hn12, hn13, hn14, hn15, hn16, hn17, hn18, hn19, hn21, hn22, hn20⟩ := act_of ha
 obtain ⟨m0, m1, m2, m3, m4, m5, m6, m7, m8, m9, m10, m11, m12, m13, m14, m15, m16, m17, m18, m19, m21, m22, em, vm, ys, hm0, hm1, hm2, hm3, hm4, hm5, hm6, hm7, hm8, hm9, hm10, hm11, hm12, hm13, hm14, hm15, hm16, hm17, hm18, hm19, hm21, hm22, hm20⟩ := act_of hb
 have key := SAMEA_den hn0 hn1 hn2 hn3 hn4 hn5 hn6 hn7 hn8 hn9 hn10 hn11 hn12 hn13 hn14 hn15 hn16 hn17 hn18 hn19 hn20 hn21 hn22 hm0 hm1 hm2 hm3 hm4 hm5 hm6 hm7 hm8 hm9 hm10 hm11 hm12 hm13 hm14 hm15 hm16 hm17 hm18 hm19 hm20 hm21 hm22
 rw [c_b01 false hd]
 refine eqB_of key ?_
 have := neP_none h1 hn21 hm21 hn22 hm22
 rw [Bool.eq_false_iff]
 intro hh
 simp only [Bool.and_eq_true, decide_eq_true_eq, List.cons.injEq, and_true] at hh
 simp [hh] at this
theorem askNoL {a b : Nat} : TEqIs ⟨(SAMEL (.x (a + 20)) (.x (b + 20)), false) :: (reqDef a ++ reqDef b), SAMEQ (reqT a ++ reqT b), .c 0⟩ := fun ν hs d hd => by
 obtain ⟨h1, hd2⟩ := hs
 obtain ⟨ha, hb⟩ := all_app hd2
 obtain ⟨n3, n4, n5, n6, n7, n8, n9, n10, n11, n12, n13, n14, n15, n16, n17, n18, n19, en, vn, xs, hn3, hn4, hn5, hn6, hn7, hn8, hn9, hn10, hn11, hn12, hn13, hn14, hn15, hn16, hn17, hn18, hn19, hn20⟩ := req_of ha
 obtain ⟨m3, m4, m5, m6, m7, m8, m9, m10, m11, m12, m13, m14, m15, m16, m17, m18, m19, em, vm, ys, hm3, hm4, hm5, hm6, hm7, hm8, hm9, hm10, hm11, hm12, hm13, hm14, hm15, hm16, hm17, hm18, hm19, hm20⟩ := req_of hb
 have key := SAMEQ_den hn3 hn4 hn5 hn6 hn7 hn8 hn9 hn10 hn11 hn12 hn13 hn14 hn15 hn16 hn17 hn18 hn19 hn20 hm3 hm4 hm5 hm6 hm7 hm8 hm9 hm10 hm11 hm12 hm13 hm14 hm15 hm16 hm17 hm18 hm19 hm20
 rw [c_b01 false hd]
 refine eqB_of key ?_
 have := so_b01 (den_SAMEL hn20 hm20) h1
 rw [this]
 simp
theorem askNoN {a b : Nat} : TEqIs ⟨(.bin .neq .i64 (LEN (.x (a + 20))) (LEN (.x (b + 20))), true) :: (reqDef a ++ reqDef b), SAMEQ (reqT a ++ reqT b), .c 0⟩ := fun ν hs d hd => by
 obtain ⟨h1, hd2⟩ := hs
 obtain ⟨ha, hb⟩ := all_app hd2
 obtain ⟨n3, n4, n5, n6, n7, n8, n9, n10, n11, n12, n13, n14, n15, n16, n17, n18, n19, en, vn, xs, hn3, hn4, hn5, hn6, hn7, hn8, hn9, hn10, hn11, hn12, hn13, hn14, hn15, hn16, hn17, hn18, hn19, hn20⟩ := req_of ha
 obtain ⟨m3, m4, m5, m6, m7, m8, m9, m10, m11, m12, m13, m14, m15, m16, m17, m18, m19, em, vm, ys, hm3, hm4, hm5, hm6, hm7, hm8, hm9, hm10, hm11, hm12, hm13, hm14, hm15, hm16, hm17, hm18, hm19, hm20⟩ := req_of hb
 have key := SAMEQ_den hn3 hn4 hn5 hn6 hn7 hn8 hn9 hn10 hn11 hn12 hn13 hn14 hn15 hn16 hn17 hn18 hn19 hn20 hm3 hm4 hm5 hm6 hm7 hm8 hm9 hm10 hm11 hm12 hm13 hm14 hm15 hm16 hm17 hm18 hm19 hm20
 rw [c_b01 false hd]
 refine eqB_of key ?_
 obtain ⟨x, y, k1, k2, k3⟩ := so_neq h1
 obtain ⟨d1, l1, g1, g2, g3⟩ := len_row k1
 obtain ⟨d2, l2, f1, f2, f3⟩ := len_row k2
 rw [hn20] at g1
 rw [hm20] at f1
 injection g1 with g1
 injection f1 with f1
 subst g1 f1
 have g2 := lenDat_row g2
 have f2 := lenDat_row f2
 subst g2 f2 g3 f3
 rw [Bool.eq_false_iff]
 intro hh
 simp only [Bool.and_eq_true, decide_eq_true_eq] at hh
 have := congrArg List.length hh.1.2
 simp only [List.length_map] at this
 rw [this] at k3
 simp at k3
theorem askYes {a b : Nat} : TEqIs ⟨(SAMEL (.x (a + 20)) (.x (b + 20)), true) :: (.bin .neq .i64 (LEN (.x (a + 20))) (LEN (.x (b + 20))), false) :: (reqParts.map fun p => (neP a b p, false)) ++ (reqDef a ++ reqDef b), SAMEQ (reqT a ++ reqT b), .c 1⟩ := fun ν hs d hd => by
 obtain ⟨hs1, hd2⟩ := all_app hs
 obtain ⟨h1, _, p3, p4, p5, p7, p9, p10, p11, p12, p13, p15, p17, p18, p19, _⟩ := hs1
 obtain ⟨ha, hb⟩ := all_app hd2
 obtain ⟨n3, n4, n5, n6, n7, n8, n9, n10, n11, n12, n13, n14, n15, n16, n17, n18, n19, en, vn, xs, hn3, hn4, hn5, hn6, hn7, hn8, hn9, hn10, hn11, hn12, hn13, hn14, hn15, hn16, hn17, hn18, hn19, hn20⟩ := req_of ha
 obtain ⟨m3, m4, m5, m6, m7, m8, m9, m10, m11, m12, m13, m14, m15, m16, m17, m18, m19, em, vm, ys, hm3, hm4, hm5, hm6, hm7, hm8, hm9, hm10, hm11, hm12, hm13, hm14, hm15, hm16, hm17, hm18, hm19, hm20⟩ := req_of hb
 have key := SAMEQ_den hn3 hn4 hn5 hn6 hn7 hn8 hn9 hn10 hn11 hn12 hn13 hn14 hn15 hn16 hn17 hn18 hn19 hn20 hm3 hm4 hm5 hm6 hm7 hm8 hm9 hm10 hm11 hm12 hm13 hm14 hm15 hm16 hm17 hm18 hm19 hm20
 rw [c_b01 true hd]
 refine eqB_of key ?_
 have hl := so_b01 (den_SAMEL hn20 hm20) h1
 rw [hl]
 have q3 := neP_some p3 hn3 hm3
 have q4 := neP_some p4 hn4 hm4
 have q5 := neP_none p5 hn5 hm5 hn6 hm6
 have q7 := neP_none p7 hn7 hm7 hn8 hm8
 have q9 := neP_some p9 hn9 hm9
 have q10 := neP_some p10 hn10 hm10
 have q11 := neP_some p11 hn11 hm11
 have q12 := neP_some p12 hn12 hm12
 have q13 := neP_none p13 hn13 hm13 hn14 hm14
 have q15 := neP_none p15 hn15 hm15 hn16 hm16
 have q17 := neP_some p17 hn17 hm17
 have q18 := neP_some p18 hn18 hm18
 have q19 := neP_some p19 hn19 hm19
 simp only [Bool.not_eq_false, Bool.not_false, Bool.and_eq_true, decide_eq_true_eq, Bool.not_eq_eq_eq_not] at q3 q4 q5 q7 q9 q10 q11 q12 q13 q15 q17 q18 q19
 simp [*]
theorem actYes {a b : Nat} : TEqIs ⟨(SAMEQ (reqT a ++ reqT b), true) :: (actParts.map fun p => (neP a b p, false)) ++ (actDef a ++ actDef b), SAMEA (actT a ++ actT b), .c 1⟩ := fun ν hs d hd => by
 obtain ⟨hs1, hd2⟩ := all_app hs
 obtain ⟨h1, p0, p1, p2, p21, _⟩ := hs1
 obtain ⟨ha, hb⟩ := all_app hd2
 obtain ⟨n0, n1, n2, n3, n4, n5, n6, n7, n8, n9, n10, n11, n12, n13, n14, n15, n16, n17, n18, n19, n21, n22, en, vn, xs, hn0, hn1, hn2, hn3, hn4, hn5, hn6, hn7, hn8, hn9, hn10, hn11, hn12, hn13, hn14, hn15, hn16, hn17, hn18, hn19, hn21, hn22, hn20⟩ := act_of ha
 obtain ⟨m0, m1, m2, m3, m4, m5, m6, m7, m8, m9, m10, m11, m12, m13, m14, m15, m16, m17, m18, m19, m21, m22, em, vm, ys, hm0, hm1, hm2, hm3, hm4, hm5, hm6, hm7, hm8, hm9, hm10, hm11, hm12, hm13, hm14, hm15, hm16, hm17, hm18, hm19, hm21, hm22, hm20⟩ := act_of hb
 have key := SAMEA_den hn0 hn1 hn2 hn3 hn4 hn5 hn6 hn7 hn8 hn9 hn10 hn11 hn12 hn13 hn14 hn15 hn16 hn17 hn18 hn19 hn20 hn21 hn22 hm0 hm1 hm2 hm3 hm4 hm5 hm6 hm7 hm8 hm9 hm10 hm11 hm12 hm13 hm14 hm15 hm16 hm17 hm18 hm19 hm20 hm21 hm22
 have kq := so_b01 (SAMEQ_den hn3 hn4 hn5 hn6 hn7 hn8 hn9 hn10 hn11 hn12 hn13 hn14 hn15 hn16 hn17 hn18 hn19 hn20 hm3 hm4 hm5 hm6 hm7 hm8 hm9 hm10 hm11 hm12 hm13 hm14 hm15 hm16 hm17 hm18 hm19 hm20) h1
 rw [c_b01 true hd]
 refine eqB_of key ?_
 have q0 := neP_some p0 hn0 hm0
 have q1 := neP_some p1 hn1 hm1
 have q2 := neP_some p2 hn2 hm2
 have q21 := neP_none p21 hn21 hm21 hn22 hm22
 simp only [Bool.not_eq_false, Bool.not_false, Bool.and_eq_true, decide_eq_true_eq, Bool.not_eq_eq_eq_not, List.cons.injEq, and_true] at kq q0 q1 q2 q21
 simp [*]
theorem actNoQ {a b : Nat} : TEqIs ⟨(SAMEQ (reqT a ++ reqT b), false) :: (actDef a ++ actDef b), SAMEA (actT a ++ actT b), .c 0⟩ := fun ν hs d hd => by
 obtain ⟨h1, hd2⟩ := hs
 obtain ⟨ha, hb⟩ := all_app hd2
 obtain ⟨n0, n1, n2, n3, n4, n5, n6, n7, n8, n9, n10, n11, n12, n13, n14, n15, n16, n17, n18, n19, n21, n22, en, vn, xs, hn0, hn1, hn2, hn3, hn4, hn5, hn6, hn7, hn8, hn9, hn10, hn11, hn12, hn13, hn14, hn15, hn16, hn17, hn18, hn19, hn21, hn22, hn20⟩ := act_of ha
 obtain ⟨m0, m1, m2, m3, m4, m5, m6, m7, m8, m9, m10, m11, m12, m13, m14, m15, m16, m17, m18, m19, m21, m22, em, vm, ys, hm0, hm1, hm2, hm3, hm4, hm5, hm6, hm7, hm8, hm9, hm10, hm11, hm12, hm13, hm14, hm15, hm16, hm17, hm18, hm19, hm21, hm22, hm20⟩ := act_of hb
 have key := SAMEA_den hn0 hn1 hn2 hn3 hn4 hn5 hn6 hn7 hn8 hn9 hn10 hn11 hn12 hn13 hn14 hn15 hn16 hn17 hn18 hn19 hn20 hn21 hn22 hm0 hm1 hm2 hm3 hm4 hm5 hm6 hm7 hm8 hm9 hm10 hm11 hm12 hm13 hm14 hm15 hm16 hm17 hm18 hm19 hm20 hm21 hm22
 have kq := so_b01 (SAMEQ_den hn3 hn4 hn5 hn6 hn7 hn8 hn9 hn10 hn11 hn12 hn13 hn14 hn15 hn16 hn17 hn18 hn19 hn20 hm3 hm4 hm5 hm6 hm7 hm8 hm9 hm10 hm11 hm12 hm13 hm14 hm15 hm16 hm17 hm18 hm19 hm20) h1
 rw [c_b01 false hd]
 refine eqB_of key ?_
 rw [Bool.eq_false_iff] at kq ⊢
 intro hh
 refine kq ?_
 simp only [Bool.and_eq_true, decide_eq_true_eq, List.cons.injEq, and_true] at hh ⊢
 simp [hh]
theorem askEqs_ok {a b : Nat} : TEqOk (askEqs a b) := (teq_cons askYes (teq_cons askNoL (teq_cons askNoN (teq_cons askNo3 (teq_cons askNo4 (teq_cons askNo5 (teq_cons askNo7 (teq_cons askNo9 (teq_cons askNo10 (teq_cons askNo11 (teq_cons askNo12 (teq_cons askNo13 (teq_cons askNo15 (teq_cons askNo17 (teq_cons askNo18 (teq_cons askNo19 teq_nil))))))))))))))))
theorem actEqs_ok {a b : Nat} : TEqOk (actEqs a b) := (teq_cons actYes (teq_cons actNoQ (teq_cons actNo0 (teq_cons actNo1 (teq_cons actNo2 (teq_cons actNo21 teq_nil))))))
theorem teq0_ok : TEqOk teq0 := teq_append teqNum_ok (teq_append askEqs_ok (teq_append actEqs_ok (teq_cons linesEq1_is (teq_cons linesEq2_is (teq_cons putEq_is (teq_cons putEq_is (teq_cons putEq_is (teq_cons putEq_is teq_nil))))))))
end
end Go.Proofs.YtcjbpaiomcfgnaaGreatDoor
namespace Go.Proofs.YtcjbpaiomcfgnaaGreatDoor
open Go
theorem w64_mod (v : Int) : (w64 v : Int) = v % 18446744073709551616 := by
 unfold w64
 have h : IntKind.u64.wrap v = v % 18446744073709551616 := by
  simp only [IntKind.wrap, IntKind.bits, IntKind.signed]
  simp
 rw [h]
 omega
theorem w64_inj {k : IntKind} {x y : Int} (h : w64 (k.wrap x) = w64 (k.wrap y)) : k.wrap x = k.wrap y := by
 have h1 := wrap_rng k x
 have h2 := wrap_rng k y
 have h3 : (w64 (k.wrap x) : Int) = w64 (k.wrap y) := by rw [h]
 rw [w64_mod, w64_mod] at h3
 generalize k.wrap x = a at *
 generalize k.wrap y = b at *
 cases k <;> simp only [IntKind.min, IntKind.max, IntKind.bits, IntKind.signed] at h1 h2 <;> simp at h1 h2 <;> omega
theorem view_inj {d e : Dat} (h : (viewL d).map w64 = (viewL e).map w64) : viewL d = viewL e := by
 simp only [viewL, List.map_cons, List.map_nil, List.cons.injEq, and_true] at h ⊢
 exact ⟨w64_inj h.1, w64_inj h.2.1, w64_inj h.2.2.1, w64_inj h.2.2.2⟩
theorem linesB_inj : ∀ {xs ys : List Dat} {r s : List UInt8}, xs.length = ys.length → linesB xs ++ r = linesB ys ++ s → xs.map viewL = ys.map viewL ∧ r = s
 | [], [], r, s, _, h => ⟨rfl, by simpa [linesB] using h⟩
 | [], _ :: _, _, _, hl, _ => by simp at hl
 | _ :: _, [], _, _, hl, _ => by simp at hl
 | a :: l, b :: m, r, s, hl, h => by
  have e1 : linesB (a :: l) = lineB a ++ linesB l := rfl
  have e2 : linesB (b :: m) = lineB b ++ linesB m := rfl
  rw [e1, e2, List.append_assoc, List.append_assoc] at h
  obtain ⟨h1, h2⟩ := flatNB_inj (l := viewL a) (m := viewL b) rfl h
  obtain ⟨h3, h4⟩ := linesB_inj (by simpa using hl) h2
  exact ⟨by simp [view_inj h1, h3], h4⟩
theorem linesB_view : ∀ {xs ys : List Dat}, xs.map viewL = ys.map viewL → linesB xs = linesB ys
 | [], [], _ => rfl
 | [], _ :: _, h => by simp at h
 | _ :: _, [], h => by simp at h
 | a :: l, b :: m, h => by
  simp only [List.map_cons, List.cons.injEq] at h
  have e1 : linesB (a :: l) = lineB a ++ linesB l := rfl
  have e2 : linesB (b :: m) = lineB b ++ linesB m := rfl
  rw [e1, e2, linesB_view h.2]
  unfold lineB
  rw [h.1]
theorem actB_inj {a a' b b' : List Int} {xs ys : List Dat} (h : actB a xs b = actB a' ys b') (ha : (preW a).length = (preW a').length) (hb : b.length = b'.length) (hx : xs.length ≤ 300) (hy : ys.length ≤ 300) : (preW a).map w64 = (preW a').map w64 ∧ xs.map viewL = ys.map viewL ∧ b.map w64 = b'.map w64 := by
 unfold actB at h
 simp only [List.append_assoc] at h
 obtain ⟨h1, h2⟩ := flatNB_inj ha h
 obtain ⟨h3, h4⟩ := NB_inj h2
 have h5 : (xs.length : Int) = ys.length := by
  have h3 : (w64 (IntKind.u32.wrap xs.length) : Int) = w64 (IntKind.u32.wrap ys.length) := by rw [h3]
  rw [wrap_in (k := .u32) (by show (0 : Int) ≤ _; omega) (by show _ ≤ (4294967295 : Int); omega), wrap_in (k := .u32) (by show (0 : Int) ≤ _; omega) (by show _ ≤ (4294967295 : Int); omega), w64_mod, w64_mod] at h3
  omega
 obtain ⟨h6, h7⟩ := linesB_inj (by omega) h4
 have h7 : b.flatMap NB ++ [] = b'.flatMap NB ++ [] := by simpa using h7
 exact ⟨h1, h6, (flatNB_inj hb h7).1⟩
section
variable {ν : Nm}
structure TS (ν : Nm) (c : Bool) (x y : Nat → Int) (dx dy : Dat) : Prop where
 hx : ∀ j, j ≤ 22 → j ≠ 20 → denT ν (.x j) = some (.n (x j))
 x20 : denT ν (.x 20) = some dx
 hy : ∀ j, j ≤ 22 → j ≠ 20 → denT ν (.x (30 + j)) = some (.n (y j))
 y20 : denT ν (.x 50) = some dy
 hs : sameR 20 [Dat.n (IntKind.u8.wrap (x 0)), Dat.n (IntKind.u8.wrap (x 1)), Dat.n (IntKind.i64.wrap (x 2)), Dat.n (IntKind.u8.wrap (x 3)), Dat.n (IntKind.u32.wrap (x 4)), Dat.n (IntKind.u8.wrap (x 5)), Dat.n (IntKind.u32.wrap (x 6)), Dat.n (IntKind.u8.wrap (x 7)), Dat.n (IntKind.u32.wrap (x 8)), Dat.n (IntKind.u32.wrap (x 9)), Dat.n (IntKind.u8.wrap (x 10)), Dat.n (IntKind.u8.wrap (x 11)), Dat.n (IntKind.u64.wrap (x 12)), Dat.n (IntKind.u8.wrap (x 13)), Dat.n (IntKind.u32.wrap (x 14)), Dat.n (IntKind.u8.wrap (x 15)), Dat.n (IntKind.u32.wrap (x 16)), Dat.n (IntKind.u32.wrap (x 17)), Dat.n (IntKind.u32.wrap (x 18)), Dat.n (IntKind.u32.wrap (x 19)), dx, Dat.n (IntKind.u8.wrap (x 21)), Dat.n (IntKind.u32.wrap (x 22))] [Dat.n (IntKind.u8.wrap (y 0)), Dat.n (IntKind.u8.wrap (y 1)), Dat.n (IntKind.i64.wrap (y 2)), Dat.n (IntKind.u8.wrap (y 3)), Dat.n (IntKind.u32.wrap (y 4)), Dat.n (IntKind.u8.wrap (y 5)), Dat.n (IntKind.u32.wrap (y 6)), Dat.n (IntKind.u8.wrap (y 7)), Dat.n (IntKind.u32.wrap (y 8)), Dat.n (IntKind.u32.wrap (y 9)), Dat.n (IntKind.u8.wrap (y 10)), Dat.n (IntKind.u8.wrap (y 11)), Dat.n (IntKind.u64.wrap (y 12)), Dat.n (IntKind.u8.wrap (y 13)), Dat.n (IntKind.u32.wrap (y 14)), Dat.n (IntKind.u8.wrap (y 15)), Dat.n (IntKind.u32.wrap (y 16)), Dat.n (IntKind.u32.wrap (y 17)), Dat.n (IntKind.u32.wrap (y 18)), Dat.n (IntKind.u32.wrap (y 19)), dy, Dat.n (IntKind.u8.wrap (y 21)), Dat.n (IntKind.u32.wrap (y 22))] = c
theorem theSame_inv {c : Bool} (h : IsSo ν theSame c) : ∃ (x y : Nat → Int) (dx dy : Dat), TS ν c x y dx dy := by
 obtain ⟨n, hn, hc⟩ := h
 obtain ⟨ds, h0, hv⟩ := (den_U (by omega)).1 hn
 obtain ⟨d0, r0, a0, b0, e0⟩ := denTs_cons h0
 obtain ⟨d1, r1, a1, b1, e1⟩ := denTs_cons b0
 obtain ⟨d2, r2, a2, b2, e2⟩ := denTs_cons b1
 obtain ⟨d3, r3, a3, b3, e3⟩ := denTs_cons b2
 obtain ⟨d4, r4, a4, b4, e4⟩ := denTs_cons b3
 obtain ⟨d5, r5, a5, b5, e5⟩ := denTs_cons b4
 obtain ⟨d6, r6, a6, b6, e6⟩ := denTs_cons b5
 obtain ⟨d7, r7, a7, b7, e7⟩ := denTs_cons b6
 obtain ⟨d8, r8, a8, b8, e8⟩ := denTs_cons b7
 obtain ⟨d9, r9, a9, b9, e9⟩ := denTs_cons b8
 obtain ⟨d10, r10, a10, b10, e10⟩ := denTs_cons b9
 obtain ⟨d11, r11, a11, b11, e11⟩ := denTs_cons b10
 obtain ⟨d12, r12, a12, b12, e12⟩ := denTs_cons b11
 obtain ⟨d13, r13, a13, b13, e13⟩ := denTs_cons b12
 obtain ⟨d14, r14, a14, b14, e14⟩ := denTs_cons b13
 obtain ⟨d15, r15, a15, b15, e15⟩ := denTs_cons b14
 obtain ⟨d16, r16, a16, b16, e16⟩ := denTs_cons b15
 obtain ⟨d17, r17, a17, b17, e17⟩ := denTs_cons b16
 obtain ⟨d18, r18, a18, b18, e18⟩ := denTs_cons b17
 obtain ⟨d19, r19, a19, b19, e19⟩ := denTs_cons b18
 obtain ⟨d20, r20, a20, b20, e20⟩ := denTs_cons b19
 obtain ⟨d21, r21, a21, b21, e21⟩ := denTs_cons b20
 obtain ⟨d22, r22, a22, b22, e22⟩ := denTs_cons b21
 obtain ⟨d23, r23, a23, b23, e23⟩ := denTs_cons b22
 obtain ⟨d24, r24, a24, b24, e24⟩ := denTs_cons b23
 obtain ⟨d25, r25, a25, b25, e25⟩ := denTs_cons b24
 obtain ⟨d26, r26, a26, b26, e26⟩ := denTs_cons b25
 obtain ⟨d27, r27, a27, b27, e27⟩ := denTs_cons b26
 obtain ⟨d28, r28, a28, b28, e28⟩ := denTs_cons b27
 obtain ⟨d29, r29, a29, b29, e29⟩ := denTs_cons b28
 obtain ⟨d30, r30, a30, b30, e30⟩ := denTs_cons b29
 obtain ⟨d31, r31, a31, b31, e31⟩ := denTs_cons b30
 obtain ⟨d32, r32, a32, b32, e32⟩ := denTs_cons b31
 obtain ⟨d33, r33, a33, b33, e33⟩ := denTs_cons b32
 obtain ⟨d34, r34, a34, b34, e34⟩ := denTs_cons b33
 obtain ⟨d35, r35, a35, b35, e35⟩ := denTs_cons b34
 obtain ⟨d36, r36, a36, b36, e36⟩ := denTs_cons b35
 obtain ⟨d37, r37, a37, b37, e37⟩ := denTs_cons b36
 obtain ⟨d38, r38, a38, b38, e38⟩ := denTs_cons b37
 obtain ⟨d39, r39, a39, b39, e39⟩ := denTs_cons b38
 obtain ⟨d40, r40, a40, b40, e40⟩ := denTs_cons b39
 obtain ⟨d41, r41, a41, b41, e41⟩ := denTs_cons b40
 obtain ⟨d42, r42, a42, b42, e42⟩ := denTs_cons b41
 obtain ⟨d43, r43, a43, b43, e43⟩ := denTs_cons b42
 obtain ⟨d44, r44, a44, b44, e44⟩ := denTs_cons b43
 obtain ⟨d45, r45, a45, b45, e45⟩ := denTs_cons b44
 have b45 := denTs_nil b45
 obtain ⟨x0, k0, q0⟩ := den_conv.1 a0
 obtain ⟨x1, k1, q1⟩ := den_conv.1 a1
 obtain ⟨x2, k2, q2⟩ := den_conv.1 a2
 obtain ⟨x3, k3, q3⟩ := den_conv.1 a3
 obtain ⟨x4, k4, q4⟩ := den_conv.1 a4
 obtain ⟨x5, k5, q5⟩ := den_conv.1 a5
 obtain ⟨x6, k6, q6⟩ := den_conv.1 a6
 obtain ⟨x7, k7, q7⟩ := den_conv.1 a7
 obtain ⟨x8, k8, q8⟩ := den_conv.1 a8
 obtain ⟨x9, k9, q9⟩ := den_conv.1 a9
 obtain ⟨x10, k10, q10⟩ := den_conv.1 a10
 obtain ⟨x11, k11, q11⟩ := den_conv.1 a11
 obtain ⟨x12, k12, q12⟩ := den_conv.1 a12
 obtain ⟨x13, k13, q13⟩ := den_conv.1 a13
 obtain ⟨x14, k14, q14⟩ := den_conv.1 a14
 obtain ⟨x15, k15, q15⟩ := den_conv.1 a15
 obtain ⟨x16, k16, q16⟩ := den_conv.1 a16
 obtain ⟨x17, k17, q17⟩ := den_conv.1 a17
 obtain ⟨x18, k18, q18⟩ := den_conv.1 a18
 obtain ⟨x19, k19, q19⟩ := den_conv.1 a19
 obtain ⟨x21, k21, q21⟩ := den_conv.1 a21
 obtain ⟨x22, k22, q22⟩ := den_conv.1 a22
 obtain ⟨y0, k23, q23⟩ := den_conv.1 a23
 obtain ⟨y1, k24, q24⟩ := den_conv.1 a24
 obtain ⟨y2, k25, q25⟩ := den_conv.1 a25
 obtain ⟨y3, k26, q26⟩ := den_conv.1 a26
 obtain ⟨y4, k27, q27⟩ := den_conv.1 a27
 obtain ⟨y5, k28, q28⟩ := den_conv.1 a28
 obtain ⟨y6, k29, q29⟩ := den_conv.1 a29
 obtain ⟨y7, k30, q30⟩ := den_conv.1 a30
 obtain ⟨y8, k31, q31⟩ := den_conv.1 a31
 obtain ⟨y9, k32, q32⟩ := den_conv.1 a32
 obtain ⟨y10, k33, q33⟩ := den_conv.1 a33
 obtain ⟨y11, k34, q34⟩ := den_conv.1 a34
 obtain ⟨y12, k35, q35⟩ := den_conv.1 a35
 obtain ⟨y13, k36, q36⟩ := den_conv.1 a36
 obtain ⟨y14, k37, q37⟩ := den_conv.1 a37
 obtain ⟨y15, k38, q38⟩ := den_conv.1 a38
 obtain ⟨y16, k39, q39⟩ := den_conv.1 a39
 obtain ⟨y17, k40, q40⟩ := den_conv.1 a40
 obtain ⟨y18, k41, q41⟩ := den_conv.1 a41
 obtain ⟨y19, k42, q42⟩ := den_conv.1 a42
 obtain ⟨y21, k44, q44⟩ := den_conv.1 a44
 obtain ⟨y22, k45, q45⟩ := den_conv.1 a45
 subst b45 e45 e44 e43 e42 e41 e40 e39 e38 e37 e36 e35 e34 e33 e32 e31 e30 e29 e28 e27 e26 e25 e24 e23 e22 e21 e20 e19 e18 e17 e16 e15 e14 e13 e12 e11 e10 e9 e8 e7 e6 e5 e4 e3 e2 e1 e0
 subst q0 q1 q2 q3 q4 q5 q6 q7 q8 q9 q10 q11 q12 q13 q14 q15 q16 q17 q18 q19 q21 q22 q23 q24 q25 q26 q27 q28 q29 q30 q31 q32 q33 q34 q35 q36 q37 q38 q39 q40 q41 q42 q44 q45
 refine ⟨fun j => match j with | 0 => x0 | 1 => x1 | 2 => x2 | 3 => x3 | 4 => x4 | 5 => x5 | 6 => x6 | 7 => x7 | 8 => x8 | 9 => x9 | 10 => x10 | 11 => x11 | 12 => x12 | 13 => x13 | 14 => x14 | 15 => x15 | 16 => x16 | 17 => x17 | 18 => x18 | 19 => x19 | 21 => x21 | 22 => x22 | _ => 0, fun j => match j with | 0 => y0 | 1 => y1 | 2 => y2 | 3 => y3 | 4 => y4 | 5 => y5 | 6 => y6 | 7 => y7 | 8 => y8 | 9 => y9 | 10 => y10 | 11 => y11 | 12 => y12 | 13 => y13 | 14 => y14 | 15 => y15 | 16 => y16 | 17 => y17 | 18 => y18 | 19 => y19 | 21 => y21 | 22 => y22 | _ => 0, d20, d43, ⟨fun j h1 h2 => ?_, a20, fun j h1 h2 => ?_, a43, ?_⟩⟩
 ·exact match j, h1, h2 with
  | 0, _, _ => k0
  | 1, _, _ => k1
  | 2, _, _ => k2
  | 3, _, _ => k3
  | 4, _, _ => k4
  | 5, _, _ => k5
  | 6, _, _ => k6
  | 7, _, _ => k7
  | 8, _, _ => k8
  | 9, _, _ => k9
  | 10, _, _ => k10
  | 11, _, _ => k11
  | 12, _, _ => k12
  | 13, _, _ => k13
  | 14, _, _ => k14
  | 15, _, _ => k15
  | 16, _, _ => k16
  | 17, _, _ => k17
  | 18, _, _ => k18
  | 19, _, _ => k19
  | 20, _, h => absurd rfl h
  | 21, _, _ => k21
  | 22, _, _ => k22
  | n + 23, h, _ => absurd h (by omega)
 ·exact match j, h1, h2 with
  | 0, _, _ => k23
  | 1, _, _ => k24
  | 2, _, _ => k25
  | 3, _, _ => k26
  | 4, _, _ => k27
  | 5, _, _ => k28
  | 6, _, _ => k29
  | 7, _, _ => k30
  | 8, _, _ => k31
  | 9, _, _ => k32
  | 10, _, _ => k33
  | 11, _, _ => k34
  | 12, _, _ => k35
  | 13, _, _ => k36
  | 14, _, _ => k37
  | 15, _, _ => k38
  | 16, _, _ => k39
  | 17, _, _ => k40
  | 18, _, _ => k41
  | 19, _, _ => k42
  | 20, _, h => absurd rfl h
  | 21, _, _ => k44
  | 22, _, _ => k45
  | n + 23, h, _ => absurd h (by omega)
 have e : denT ν theSame = some (b01 (sameR 20 _ _)) := hn.trans hv.symm
 exact so_b01 e ⟨n, hn, hc⟩
theorem ACT_inv1 {b : Nat} {x0 x1 x2 x3 x4 x5 x6 x7 x8 x9 x10 x11 x12 x13 x14 x15 x16 x17 x18 x19 x21 x22 : Int} {dx : Dat} {s : List UInt8} (h0 : denT ν (.x (b + 0)) = some (.n x0)) (h1 : denT ν (.x (b + 1)) = some (.n x1)) (h2 : denT ν (.x (b + 2)) = some (.n x2)) (h3 : denT ν (.x (b + 3)) = some (.n x3)) (h4 : denT ν (.x (b + 4)) = some (.n x4)) (h5 : denT ν (.x (b + 5)) = some (.n x5)) (h6 : denT ν (.x (b + 6)) = some (.n x6)) (h7 : denT ν (.x (b + 7)) = some (.n x7)) (h8 : denT ν (.x (b + 8)) = some (.n x8)) (h9 : denT ν (.x (b + 9)) = some (.n x9)) (h10 : denT ν (.x (b + 10)) = some (.n x10)) (h11 : denT ν (.x (b + 11)) = some (.n x11)) (h12 : denT ν (.x (b + 12)) = some (.n x12)) (h13 : denT ν (.x (b + 13)) = some (.n x13)) (h14 : denT ν (.x (b + 14)) = some (.n x14)) (h15 : denT ν (.x (b + 15)) = some (.n x15)) (h16 : denT ν (.x (b + 16)) = some (.n x16)) (h17 : denT ν (.x (b + 17)) = some (.n x17)) (h18 : denT ν (.x (b + 18)) = some (.n x18)) (h19 : denT ν (.x (b + 19)) = some (.n x19)) (h20 : denT ν (.x (b + 20)) = some dx) (h21 : denT ν (.x (b + 21)) = some (.n x21)) (h22 : denT ν (.x (b + 22)) = some (.n x22)) (h : denT ν (ACT (caT b false)) = some (.s s)) : ∃ e v xs, dx = .r e v xs ∧ xs.length ≤ 300 ∧ s = actB [IntKind.u8.wrap x0, IntKind.u8.wrap x1, IntKind.i64.wrap x2, IntKind.u8.wrap x3, IntKind.u32.wrap x4, IntKind.u8.wrap x5, IntKind.u32.wrap x6, IntKind.u8.wrap x7, IntKind.u32.wrap x8, IntKind.u32.wrap x9, IntKind.u8.wrap x10, IntKind.u8.wrap x11, IntKind.u64.wrap x12, IntKind.u8.wrap x13, IntKind.u32.wrap x14, IntKind.u8.wrap x15, IntKind.u32.wrap x16, IntKind.u32.wrap x17, IntKind.u32.wrap x18, IntKind.u32.wrap x19] xs [IntKind.u8.wrap x21, IntKind.u32.wrap x22] := by
 have hd : denTs ν (caT b false) = some _ := (denTs_mk (den_conv.2 ⟨x0, h0, rfl⟩) (denTs_mk (den_conv.2 ⟨x1, h1, rfl⟩) (denTs_mk (den_conv.2 ⟨x2, h2, rfl⟩) (denTs_mk (den_conv.2 ⟨x3, h3, rfl⟩) (denTs_mk (den_conv.2 ⟨x4, h4, rfl⟩) (denTs_mk (den_conv.2 ⟨x5, h5, rfl⟩) (denTs_mk (den_conv.2 ⟨x6, h6, rfl⟩) (denTs_mk (den_conv.2 ⟨x7, h7, rfl⟩) (denTs_mk (den_conv.2 ⟨x8, h8, rfl⟩) (denTs_mk (den_conv.2 ⟨x9, h9, rfl⟩) (denTs_mk (den_conv.2 ⟨x10, h10, rfl⟩) (denTs_mk (den_conv.2 ⟨x11, h11, rfl⟩) (denTs_mk (den_conv.2 ⟨x12, h12, rfl⟩) (denTs_mk (den_conv.2 ⟨x13, h13, rfl⟩) (denTs_mk (den_conv.2 ⟨x14, h14, rfl⟩) (denTs_mk (den_conv.2 ⟨x15, h15, rfl⟩) (denTs_mk (den_conv.2 ⟨x16, h16, rfl⟩) (denTs_mk (den_conv.2 ⟨x17, h17, rfl⟩) (denTs_mk (den_conv.2 ⟨x18, h18, rfl⟩) (denTs_mk (den_conv.2 ⟨x19, h19, rfl⟩) (denTs_mk h20 (denTs_mk (den_conv.2 ⟨x21, h21, rfl⟩) (denTs_mk (den_conv.2 ⟨x22, h22, rfl⟩) rfl)))))))))))))))))))))))
 obtain ⟨ds, k1, k2⟩ := (den_U (by omega)).1 h
 rw [hd] at k1
 injection k1 with k1
 subst k1
 cases dx with
 | r e v xs =>
  have k3 : flatU (if xs.length ≤ 300 ∧ _ ∧ _ then some (Dat.s _) else none) = some (.s s) := k2
  split at k3
  ·rename_i hc
   injection k3 with k3
   injection k3 with k3
   exact ⟨e, v, xs, rfl, hc.1, k3.symm⟩
  ·cases k3
 | _ => cases k2
theorem ACT_inv0 {b : Nat} {x0 x1 x3 x4 x5 x6 x7 x8 x9 x10 x11 x12 x13 x14 x15 x16 x17 x18 x19 x21 x22 : Int} {dx : Dat} {s : List UInt8} (h0 : denT ν (.x (b + 0)) = some (.n x0)) (h1 : denT ν (.x (b + 1)) = some (.n x1)) (h3 : denT ν (.x (b + 3)) = some (.n x3)) (h4 : denT ν (.x (b + 4)) = some (.n x4)) (h5 : denT ν (.x (b + 5)) = some (.n x5)) (h6 : denT ν (.x (b + 6)) = some (.n x6)) (h7 : denT ν (.x (b + 7)) = some (.n x7)) (h8 : denT ν (.x (b + 8)) = some (.n x8)) (h9 : denT ν (.x (b + 9)) = some (.n x9)) (h10 : denT ν (.x (b + 10)) = some (.n x10)) (h11 : denT ν (.x (b + 11)) = some (.n x11)) (h12 : denT ν (.x (b + 12)) = some (.n x12)) (h13 : denT ν (.x (b + 13)) = some (.n x13)) (h14 : denT ν (.x (b + 14)) = some (.n x14)) (h15 : denT ν (.x (b + 15)) = some (.n x15)) (h16 : denT ν (.x (b + 16)) = some (.n x16)) (h17 : denT ν (.x (b + 17)) = some (.n x17)) (h18 : denT ν (.x (b + 18)) = some (.n x18)) (h19 : denT ν (.x (b + 19)) = some (.n x19)) (h20 : denT ν (.x (b + 20)) = some dx) (h21 : denT ν (.x (b + 21)) = some (.n x21)) (h22 : denT ν (.x (b + 22)) = some (.n x22)) (h : denT ν (ACT (caT b true)) = some (.s s)) : ∃ e v xs, dx = .r e v xs ∧ xs.length ≤ 300 ∧ s = actB [IntKind.u8.wrap x0, IntKind.u8.wrap x1, 0, IntKind.u8.wrap x3, IntKind.u32.wrap x4, IntKind.u8.wrap x5, IntKind.u32.wrap x6, IntKind.u8.wrap x7, IntKind.u32.wrap x8, IntKind.u32.wrap x9, IntKind.u8.wrap x10, IntKind.u8.wrap x11, IntKind.u64.wrap x12, IntKind.u8.wrap x13, IntKind.u32.wrap x14, IntKind.u8.wrap x15, IntKind.u32.wrap x16, IntKind.u32.wrap x17, IntKind.u32.wrap x18, IntKind.u32.wrap x19] xs [IntKind.u8.wrap x21, IntKind.u32.wrap x22] := by
 have hd : denTs ν (caT b true) = some _ := (denTs_mk (den_conv.2 ⟨x0, h0, rfl⟩) (denTs_mk (den_conv.2 ⟨x1, h1, rfl⟩) (denTs_mk (show denT ν (.c 0) = some (.n 0) from rfl) (denTs_mk (den_conv.2 ⟨x3, h3, rfl⟩) (denTs_mk (den_conv.2 ⟨x4, h4, rfl⟩) (denTs_mk (den_conv.2 ⟨x5, h5, rfl⟩) (denTs_mk (den_conv.2 ⟨x6, h6, rfl⟩) (denTs_mk (den_conv.2 ⟨x7, h7, rfl⟩) (denTs_mk (den_conv.2 ⟨x8, h8, rfl⟩) (denTs_mk (den_conv.2 ⟨x9, h9, rfl⟩) (denTs_mk (den_conv.2 ⟨x10, h10, rfl⟩) (denTs_mk (den_conv.2 ⟨x11, h11, rfl⟩) (denTs_mk (den_conv.2 ⟨x12, h12, rfl⟩) (denTs_mk (den_conv.2 ⟨x13, h13, rfl⟩) (denTs_mk (den_conv.2 ⟨x14, h14, rfl⟩) (denTs_mk (den_conv.2 ⟨x15, h15, rfl⟩) (denTs_mk (den_conv.2 ⟨x16, h16, rfl⟩) (denTs_mk (den_conv.2 ⟨x17, h17, rfl⟩) (denTs_mk (den_conv.2 ⟨x18, h18, rfl⟩) (denTs_mk (den_conv.2 ⟨x19, h19, rfl⟩) (denTs_mk h20 (denTs_mk (den_conv.2 ⟨x21, h21, rfl⟩) (denTs_mk (den_conv.2 ⟨x22, h22, rfl⟩) rfl)))))))))))))))))))))))
 obtain ⟨ds, k1, k2⟩ := (den_U (by omega)).1 h
 rw [hd] at k1
 injection k1 with k1
 subst k1
 cases dx with
 | r e v xs =>
  have k3 : flatU (if xs.length ≤ 300 ∧ _ ∧ _ then some (Dat.s _) else none) = some (.s s) := k2
  split at k3
  ·rename_i hc
   injection k3 with k3
   injection k3 with k3
   exact ⟨e, v, xs, rfl, hc.1, k3.symm⟩
  ·cases k3
 | _ => cases k2
theorem bytes_same {x0 y0 x1 y1 x2 y2 x3 y3 x4 y4 x5 y5 x6 y6 x7 y7 x8 y8 x9 y9 x10 y10 x11 y11 x12 y12 x13 y13 x14 y14 x15 y15 x16 y16 x17 y17 x18 y18 x19 y19 x21 y21 x22 y22 t : Int} {xs ys : List Dat} (h : (decide ([IntKind.u8.wrap x0, IntKind.u8.wrap x1, IntKind.i64.wrap x2, IntKind.u8.wrap x3, IntKind.u32.wrap x4, IntKind.u8.wrap x5, IntKind.u32.wrap x6, IntKind.u8.wrap x7, IntKind.u32.wrap x8, IntKind.u32.wrap x9, IntKind.u8.wrap x10, IntKind.u8.wrap x11, IntKind.u64.wrap x12, IntKind.u8.wrap x13, IntKind.u32.wrap x14, IntKind.u8.wrap x15, IntKind.u32.wrap x16, IntKind.u32.wrap x17, IntKind.u32.wrap x18, IntKind.u32.wrap x19] = [IntKind.u8.wrap y0, IntKind.u8.wrap y1, IntKind.i64.wrap y2, IntKind.u8.wrap y3, IntKind.u32.wrap y4, IntKind.u8.wrap y5, IntKind.u32.wrap y6, IntKind.u8.wrap y7, IntKind.u32.wrap y8, IntKind.u32.wrap y9, IntKind.u8.wrap y10, IntKind.u8.wrap y11, IntKind.u64.wrap y12, IntKind.u8.wrap y13, IntKind.u32.wrap y14, IntKind.u8.wrap y15, IntKind.u32.wrap y16, IntKind.u32.wrap y17, IntKind.u32.wrap y18, IntKind.u32.wrap y19]) && decide (xs.map viewL = ys.map viewL) && decide ([IntKind.u8.wrap x21, IntKind.u32.wrap x22] = [IntKind.u8.wrap y21, IntKind.u32.wrap y22])) = true) : actB [IntKind.u8.wrap x0, IntKind.u8.wrap x1, IntKind.i64.wrap x2, IntKind.u8.wrap x3, IntKind.u32.wrap x4, IntKind.u8.wrap x5, IntKind.u32.wrap x6, IntKind.u8.wrap x7, IntKind.u32.wrap x8, IntKind.u32.wrap x9, IntKind.u8.wrap x10, IntKind.u8.wrap x11, IntKind.u64.wrap x12, IntKind.u8.wrap x13, IntKind.u32.wrap x14, IntKind.u8.wrap x15, IntKind.u32.wrap x16, IntKind.u32.wrap x17, IntKind.u32.wrap x18, IntKind.u32.wrap x19] xs [IntKind.u8.wrap x21, IntKind.u32.wrap x22] = actB [IntKind.u8.wrap y0, IntKind.u8.wrap y1, IntKind.i64.wrap y2, IntKind.u8.wrap y3, IntKind.u32.wrap y4, IntKind.u8.wrap y5, IntKind.u32.wrap y6, IntKind.u8.wrap y7, IntKind.u32.wrap y8, IntKind.u32.wrap y9, IntKind.u8.wrap y10, IntKind.u8.wrap y11, IntKind.u64.wrap y12, IntKind.u8.wrap y13, IntKind.u32.wrap y14, IntKind.u8.wrap y15, IntKind.u32.wrap y16, IntKind.u32.wrap y17, IntKind.u32.wrap y18, IntKind.u32.wrap y19] ys [IntKind.u8.wrap y21, IntKind.u32.wrap y22] ∧ actB [IntKind.u8.wrap x0, IntKind.u8.wrap x1, 0, IntKind.u8.wrap x3, IntKind.u32.wrap x4, IntKind.u8.wrap x5, IntKind.u32.wrap x6, IntKind.u8.wrap x7, IntKind.u32.wrap x8, IntKind.u32.wrap x9, IntKind.u8.wrap x10, IntKind.u8.wrap x11, IntKind.u64.wrap x12, IntKind.u8.wrap x13, IntKind.u32.wrap x14, IntKind.u8.wrap x15, IntKind.u32.wrap x16, IntKind.u32.wrap x17, IntKind.u32.wrap x18, IntKind.u32.wrap x19] xs [IntKind.u8.wrap x21, IntKind.u32.wrap x22] = actB [IntKind.u8.wrap y0, IntKind.u8.wrap y1, 0, IntKind.u8.wrap y3, IntKind.u32.wrap y4, IntKind.u8.wrap y5, IntKind.u32.wrap y6, IntKind.u8.wrap y7, IntKind.u32.wrap y8, IntKind.u32.wrap y9, IntKind.u8.wrap y10, IntKind.u8.wrap y11, IntKind.u64.wrap y12, IntKind.u8.wrap y13, IntKind.u32.wrap y14, IntKind.u8.wrap y15, IntKind.u32.wrap y16, IntKind.u32.wrap y17, IntKind.u32.wrap y18, IntKind.u32.wrap y19] ys [IntKind.u8.wrap y21, IntKind.u32.wrap y22] := by
 simp only [Bool.and_eq_true, decide_eq_true_eq] at h
 obtain ⟨⟨h1, h2⟩, h3⟩ := h
 have hl : xs.length = ys.length := by simpa using congrArg List.length h2
 simp only [List.cons.injEq, and_true] at h1
 constructor
 ·unfold actB
  rw [linesB_view h2, hl, h3]
  simp only [h1]
 ·unfold actB
  rw [linesB_view h2, hl, h3]
  simp only [h1]
theorem same_bytes1 {x0 y0 x1 y1 x2 y2 x3 y3 x4 y4 x5 y5 x6 y6 x7 y7 x8 y8 x9 y9 x10 y10 x11 y11 x12 y12 x13 y13 x14 y14 x15 y15 x16 y16 x17 y17 x18 y18 x19 y19 x21 y21 x22 y22 : Int} {xs ys : List Dat} (hx : xs.length ≤ 300) (hy : ys.length ≤ 300) (h : actB [IntKind.u8.wrap x0, IntKind.u8.wrap x1, IntKind.i64.wrap x2, IntKind.u8.wrap x3, IntKind.u32.wrap x4, IntKind.u8.wrap x5, IntKind.u32.wrap x6, IntKind.u8.wrap x7, IntKind.u32.wrap x8, IntKind.u32.wrap x9, IntKind.u8.wrap x10, IntKind.u8.wrap x11, IntKind.u64.wrap x12, IntKind.u8.wrap x13, IntKind.u32.wrap x14, IntKind.u8.wrap x15, IntKind.u32.wrap x16, IntKind.u32.wrap x17, IntKind.u32.wrap x18, IntKind.u32.wrap x19] xs [IntKind.u8.wrap x21, IntKind.u32.wrap x22] = actB [IntKind.u8.wrap y0, IntKind.u8.wrap y1, IntKind.i64.wrap y2, IntKind.u8.wrap y3, IntKind.u32.wrap y4, IntKind.u8.wrap y5, IntKind.u32.wrap y6, IntKind.u8.wrap y7, IntKind.u32.wrap y8, IntKind.u32.wrap y9, IntKind.u8.wrap y10, IntKind.u8.wrap y11, IntKind.u64.wrap y12, IntKind.u8.wrap y13, IntKind.u32.wrap y14, IntKind.u8.wrap y15, IntKind.u32.wrap y16, IntKind.u32.wrap y17, IntKind.u32.wrap y18, IntKind.u32.wrap y19] ys [IntKind.u8.wrap y21, IntKind.u32.wrap y22]) : (decide ([IntKind.u8.wrap x0, IntKind.u8.wrap x1, IntKind.i64.wrap x2, IntKind.u8.wrap x3, IntKind.u32.wrap x4, IntKind.u8.wrap x5, IntKind.u32.wrap x6, IntKind.u8.wrap x7, IntKind.u32.wrap x8, IntKind.u32.wrap x9, IntKind.u8.wrap x10, IntKind.u8.wrap x11, IntKind.u64.wrap x12, IntKind.u8.wrap x13, IntKind.u32.wrap x14, IntKind.u8.wrap x15, IntKind.u32.wrap x16, IntKind.u32.wrap x17, IntKind.u32.wrap x18, IntKind.u32.wrap x19] = [IntKind.u8.wrap y0, IntKind.u8.wrap y1, IntKind.i64.wrap y2, IntKind.u8.wrap y3, IntKind.u32.wrap y4, IntKind.u8.wrap y5, IntKind.u32.wrap y6, IntKind.u8.wrap y7, IntKind.u32.wrap y8, IntKind.u32.wrap y9, IntKind.u8.wrap y10, IntKind.u8.wrap y11, IntKind.u64.wrap y12, IntKind.u8.wrap y13, IntKind.u32.wrap y14, IntKind.u8.wrap y15, IntKind.u32.wrap y16, IntKind.u32.wrap y17, IntKind.u32.wrap y18, IntKind.u32.wrap y19]) && decide (xs.map viewL = ys.map viewL) && decide ([IntKind.u8.wrap x21, IntKind.u32.wrap x22] = [IntKind.u8.wrap y21, IntKind.u32.wrap y22])) = true := by
 obtain ⟨h1, h2, h3⟩ := actB_inj h rfl rfl hx hy
 simp only [preW, List.map_cons, List.map_nil, List.cons.injEq, and_true] at h1 h3
 obtain ⟨g0, g1, g2, g3, g4, g5, g6, g7, g8, g9, g10, g11, g12, g13, g14, g15, g16, g17, g18, g19⟩ := h1
 have g0 := w64_inj g0
 have g1 := w64_inj g1
 have g2 := w64_inj g2
 have g3 : IntKind.u8.wrap x3 = IntKind.u8.wrap y3 := by
  have := w64_inj g3
  rwa [wrap_in (k := .u32) (by have := wrap_rng .u8 x3; simp only [IntKind.min, IntKind.max, IntKind.bits, IntKind.signed] at *; simp at *; omega) (by have := wrap_rng .u8 x3; simp only [IntKind.min, IntKind.max, IntKind.bits, IntKind.signed] at *; simp at *; omega), wrap_in (k := .u32) (by have := wrap_rng .u8 y3; simp only [IntKind.min, IntKind.max, IntKind.bits, IntKind.signed] at *; simp at *; omega) (by have := wrap_rng .u8 y3; simp only [IntKind.min, IntKind.max, IntKind.bits, IntKind.signed] at *; simp at *; omega)] at this
 have g4 := w64_inj g4
 have g5 := w64_inj g5
 have g6 := w64_inj g6
 have g7 := w64_inj g7
 have g8 := w64_inj g8
 have g9 := w64_inj g9
 have g10 : IntKind.u8.wrap x10 = IntKind.u8.wrap y10 := by
  have := w64_inj g10
  rwa [wrap_in (k := .u32) (by have := wrap_rng .u8 x10; simp only [IntKind.min, IntKind.max, IntKind.bits, IntKind.signed] at *; simp at *; omega) (by have := wrap_rng .u8 x10; simp only [IntKind.min, IntKind.max, IntKind.bits, IntKind.signed] at *; simp at *; omega), wrap_in (k := .u32) (by have := wrap_rng .u8 y10; simp only [IntKind.min, IntKind.max, IntKind.bits, IntKind.signed] at *; simp at *; omega) (by have := wrap_rng .u8 y10; simp only [IntKind.min, IntKind.max, IntKind.bits, IntKind.signed] at *; simp at *; omega)] at this
 have g11 : IntKind.u8.wrap x11 = IntKind.u8.wrap y11 := by
  have := w64_inj g11
  rwa [wrap_in (k := .u32) (by have := wrap_rng .u8 x11; simp only [IntKind.min, IntKind.max, IntKind.bits, IntKind.signed] at *; simp at *; omega) (by have := wrap_rng .u8 x11; simp only [IntKind.min, IntKind.max, IntKind.bits, IntKind.signed] at *; simp at *; omega), wrap_in (k := .u32) (by have := wrap_rng .u8 y11; simp only [IntKind.min, IntKind.max, IntKind.bits, IntKind.signed] at *; simp at *; omega) (by have := wrap_rng .u8 y11; simp only [IntKind.min, IntKind.max, IntKind.bits, IntKind.signed] at *; simp at *; omega)] at this
 have g12 := w64_inj g12
 have g13 := w64_inj g13
 have g14 := w64_inj g14
 have g15 := w64_inj g15
 have g16 := w64_inj g16
 have g17 := w64_inj g17
 have g18 := w64_inj g18
 have g19 := w64_inj g19
 have g21 := w64_inj h3.1
 have g22 := w64_inj h3.2
 simp only [Bool.and_eq_true, decide_eq_true_eq, List.cons.injEq, and_true]
 exact ⟨⟨⟨g0, g1, g2, g3, g4, g5, g6, g7, g8, g9, g10, g11, g12, g13, g14, g15, g16, g17, g18, g19⟩, h2⟩, g21, g22⟩
theorem same_bytes0 {x0 y0 x1 y1 x2 y2 x3 y3 x4 y4 x5 y5 x6 y6 x7 y7 x8 y8 x9 y9 x10 y10 x11 y11 x12 y12 x13 y13 x14 y14 x15 y15 x16 y16 x17 y17 x18 y18 x19 y19 x21 y21 x22 y22 : Int} {xs ys : List Dat} (hx : xs.length ≤ 300) (hy : ys.length ≤ 300) (hat : IntKind.i64.wrap x2 = IntKind.i64.wrap y2) (h : actB [IntKind.u8.wrap x0, IntKind.u8.wrap x1, 0, IntKind.u8.wrap x3, IntKind.u32.wrap x4, IntKind.u8.wrap x5, IntKind.u32.wrap x6, IntKind.u8.wrap x7, IntKind.u32.wrap x8, IntKind.u32.wrap x9, IntKind.u8.wrap x10, IntKind.u8.wrap x11, IntKind.u64.wrap x12, IntKind.u8.wrap x13, IntKind.u32.wrap x14, IntKind.u8.wrap x15, IntKind.u32.wrap x16, IntKind.u32.wrap x17, IntKind.u32.wrap x18, IntKind.u32.wrap x19] xs [IntKind.u8.wrap x21, IntKind.u32.wrap x22] = actB [IntKind.u8.wrap y0, IntKind.u8.wrap y1, 0, IntKind.u8.wrap y3, IntKind.u32.wrap y4, IntKind.u8.wrap y5, IntKind.u32.wrap y6, IntKind.u8.wrap y7, IntKind.u32.wrap y8, IntKind.u32.wrap y9, IntKind.u8.wrap y10, IntKind.u8.wrap y11, IntKind.u64.wrap y12, IntKind.u8.wrap y13, IntKind.u32.wrap y14, IntKind.u8.wrap y15, IntKind.u32.wrap y16, IntKind.u32.wrap y17, IntKind.u32.wrap y18, IntKind.u32.wrap y19] ys [IntKind.u8.wrap y21, IntKind.u32.wrap y22]) : (decide ([IntKind.u8.wrap x0, IntKind.u8.wrap x1, IntKind.i64.wrap x2, IntKind.u8.wrap x3, IntKind.u32.wrap x4, IntKind.u8.wrap x5, IntKind.u32.wrap x6, IntKind.u8.wrap x7, IntKind.u32.wrap x8, IntKind.u32.wrap x9, IntKind.u8.wrap x10, IntKind.u8.wrap x11, IntKind.u64.wrap x12, IntKind.u8.wrap x13, IntKind.u32.wrap x14, IntKind.u8.wrap x15, IntKind.u32.wrap x16, IntKind.u32.wrap x17, IntKind.u32.wrap x18, IntKind.u32.wrap x19] = [IntKind.u8.wrap y0, IntKind.u8.wrap y1, IntKind.i64.wrap y2, IntKind.u8.wrap y3, IntKind.u32.wrap y4, IntKind.u8.wrap y5, IntKind.u32.wrap y6, IntKind.u8.wrap y7, IntKind.u32.wrap y8, IntKind.u32.wrap y9, IntKind.u8.wrap y10, IntKind.u8.wrap y11, IntKind.u64.wrap y12, IntKind.u8.wrap y13, IntKind.u32.wrap y14, IntKind.u8.wrap y15, IntKind.u32.wrap y16, IntKind.u32.wrap y17, IntKind.u32.wrap y18, IntKind.u32.wrap y19]) && decide (xs.map viewL = ys.map viewL) && decide ([IntKind.u8.wrap x21, IntKind.u32.wrap x22] = [IntKind.u8.wrap y21, IntKind.u32.wrap y22])) = true := by
 obtain ⟨h1, h2, h3⟩ := actB_inj h rfl rfl hx hy
 simp only [preW, List.map_cons, List.map_nil, List.cons.injEq, and_true] at h1 h3
 obtain ⟨g0, g1, _, g3, g4, g5, g6, g7, g8, g9, g10, g11, g12, g13, g14, g15, g16, g17, g18, g19⟩ := h1
 have g0 := w64_inj g0
 have g1 := w64_inj g1
 have g3 : IntKind.u8.wrap x3 = IntKind.u8.wrap y3 := by
  have := w64_inj g3
  rwa [wrap_in (k := .u32) (by have := wrap_rng .u8 x3; simp only [IntKind.min, IntKind.max, IntKind.bits, IntKind.signed] at *; simp at *; omega) (by have := wrap_rng .u8 x3; simp only [IntKind.min, IntKind.max, IntKind.bits, IntKind.signed] at *; simp at *; omega), wrap_in (k := .u32) (by have := wrap_rng .u8 y3; simp only [IntKind.min, IntKind.max, IntKind.bits, IntKind.signed] at *; simp at *; omega) (by have := wrap_rng .u8 y3; simp only [IntKind.min, IntKind.max, IntKind.bits, IntKind.signed] at *; simp at *; omega)] at this
 have g4 := w64_inj g4
 have g5 := w64_inj g5
 have g6 := w64_inj g6
 have g7 := w64_inj g7
 have g8 := w64_inj g8
 have g9 := w64_inj g9
 have g10 : IntKind.u8.wrap x10 = IntKind.u8.wrap y10 := by
  have := w64_inj g10
  rwa [wrap_in (k := .u32) (by have := wrap_rng .u8 x10; simp only [IntKind.min, IntKind.max, IntKind.bits, IntKind.signed] at *; simp at *; omega) (by have := wrap_rng .u8 x10; simp only [IntKind.min, IntKind.max, IntKind.bits, IntKind.signed] at *; simp at *; omega), wrap_in (k := .u32) (by have := wrap_rng .u8 y10; simp only [IntKind.min, IntKind.max, IntKind.bits, IntKind.signed] at *; simp at *; omega) (by have := wrap_rng .u8 y10; simp only [IntKind.min, IntKind.max, IntKind.bits, IntKind.signed] at *; simp at *; omega)] at this
 have g11 : IntKind.u8.wrap x11 = IntKind.u8.wrap y11 := by
  have := w64_inj g11
  rwa [wrap_in (k := .u32) (by have := wrap_rng .u8 x11; simp only [IntKind.min, IntKind.max, IntKind.bits, IntKind.signed] at *; simp at *; omega) (by have := wrap_rng .u8 x11; simp only [IntKind.min, IntKind.max, IntKind.bits, IntKind.signed] at *; simp at *; omega), wrap_in (k := .u32) (by have := wrap_rng .u8 y11; simp only [IntKind.min, IntKind.max, IntKind.bits, IntKind.signed] at *; simp at *; omega) (by have := wrap_rng .u8 y11; simp only [IntKind.min, IntKind.max, IntKind.bits, IntKind.signed] at *; simp at *; omega)] at this
 have g12 := w64_inj g12
 have g13 := w64_inj g13
 have g14 := w64_inj g14
 have g15 := w64_inj g15
 have g16 := w64_inj g16
 have g17 := w64_inj g17
 have g18 := w64_inj g18
 have g19 := w64_inj g19
 have g21 := w64_inj h3.1
 have g22 := w64_inj h3.2
 simp only [Bool.and_eq_true, decide_eq_true_eq, List.cons.injEq, and_true]
 exact ⟨⟨⟨g0, g1, hat, g3, g4, g5, g6, g7, g8, g9, g10, g11, g12, g13, g14, g15, g16, g17, g18, g19⟩, h2⟩, g21, g22⟩
theorem eqs_den {a b : Tm} {c : Bool} (h : IsSo ν (EQS a b) c) : ∃ s r, denT ν a = some (.s s) ∧ denT ν b = some (.s r) ∧ (s == r) = c := by
 obtain ⟨n, h1, h2⟩ := h
 obtain ⟨s, r, k1, k2, k3⟩ := den_f4.1 h1
 exact ⟨s, r, k1, k2, so_b01 (h1.trans (by rw [k3])) ⟨n, h1, h2⟩⟩
theorem hdr_den {b : Nat} {s : List UInt8} (h : denT ν (hdrT b) = some (.s s)) : ∃ p r, denT ν (CAT (CAT (CAT (CAT (NUM (.c 0)) (NUM (.c 0))) (NUM (.c 0))) (NUM (.c 0))) (NUM (.c 1))) = some (.s p) ∧ denT ν (ACT (caT b false)) = some (.s r) ∧ s = p ++ r := by
 rcases den_f2.1 h with ⟨x, y, h1, h2, h3⟩ | ⟨x, y, h1, h2, h3⟩
 ·injection h3 with h3
  exact ⟨x, y, h1, h2, h3⟩
 ·cases h3
theorem eqAt_is : LemIs ⟨[(theSame, true)], eqAt 0 30, true⟩ := fun ν h c hb => by
 obtain ⟨x, y, dx, dy, T⟩ := theSame_inv h.1
 have hs := T.hs
 have hrow : ∃ e v xs e' v' ys, dx = .r e v xs ∧ dy = .r e' v' ys := by
  cases dx with
  | r e v xs =>
   cases dy with
   | r e' v' ys => exact ⟨_, _, _, _, _, _, rfl, rfl⟩
   | _ => cases hs
  | _ => cases hs
 obtain ⟨ex, vx, xs, ey, vy, ys, rfl, rfl⟩ := hrow
 have hs : (decide ([IntKind.u8.wrap (x 0), IntKind.u8.wrap (x 1), IntKind.i64.wrap (x 2), IntKind.u8.wrap (x 3), IntKind.u32.wrap (x 4), IntKind.u8.wrap (x 5), IntKind.u32.wrap (x 6), IntKind.u8.wrap (x 7), IntKind.u32.wrap (x 8), IntKind.u32.wrap (x 9), IntKind.u8.wrap (x 10), IntKind.u8.wrap (x 11), IntKind.u64.wrap (x 12), IntKind.u8.wrap (x 13), IntKind.u32.wrap (x 14), IntKind.u8.wrap (x 15), IntKind.u32.wrap (x 16), IntKind.u32.wrap (x 17), IntKind.u32.wrap (x 18), IntKind.u32.wrap (x 19)] = [IntKind.u8.wrap (y 0), IntKind.u8.wrap (y 1), IntKind.i64.wrap (y 2), IntKind.u8.wrap (y 3), IntKind.u32.wrap (y 4), IntKind.u8.wrap (y 5), IntKind.u32.wrap (y 6), IntKind.u8.wrap (y 7), IntKind.u32.wrap (y 8), IntKind.u32.wrap (y 9), IntKind.u8.wrap (y 10), IntKind.u8.wrap (y 11), IntKind.u64.wrap (y 12), IntKind.u8.wrap (y 13), IntKind.u32.wrap (y 14), IntKind.u8.wrap (y 15), IntKind.u32.wrap (y 16), IntKind.u32.wrap (y 17), IntKind.u32.wrap (y 18), IntKind.u32.wrap (y 19)]) && decide (xs.map viewL = ys.map viewL) && decide ([IntKind.u8.wrap (x 21), IntKind.u32.wrap (x 22)] = [IntKind.u8.wrap (y 21), IntKind.u32.wrap (y 22)])) = true := hs
 simp only [Bool.and_eq_true, decide_eq_true_eq, List.cons.injEq, and_true] at hs
 obtain ⟨u, w, k1, k2, k3⟩ := so_eql hb
 obtain ⟨u0, g1, g2⟩ := den_convn k1
 obtain ⟨w0, f1, f2⟩ := den_convn k2
 have e1 := den_one (T.hx 2 (by decide) (by decide)) g1
 have e2 := den_one (T.hy 2 (by decide) (by decide)) f1
 subst e1 e2 g2 f2
 rw [← k3]
 exact decide_eq_true hs.1.1.2.2.1
theorem eqs_yes : LemIs ⟨[(theSame, true)], EQS (ACT (caT 0 true)) (ACT (caT 30 true)), true⟩ := fun ν h c hb => by
 obtain ⟨x, y, dx, dy, T⟩ := theSame_inv h.1
 have hs := T.hs
 obtain ⟨s, r, k1, k2, k3⟩ := eqs_den hb
 obtain ⟨ex, vx, xs, rfl, lx, p1⟩ := ACT_inv0 (b := 0) (T.hx 0 (by decide) (by decide)) (T.hx 1 (by decide) (by decide)) (T.hx 3 (by decide) (by decide)) (T.hx 4 (by decide) (by decide)) (T.hx 5 (by decide) (by decide)) (T.hx 6 (by decide) (by decide)) (T.hx 7 (by decide) (by decide)) (T.hx 8 (by decide) (by decide)) (T.hx 9 (by decide) (by decide)) (T.hx 10 (by decide) (by decide)) (T.hx 11 (by decide) (by decide)) (T.hx 12 (by decide) (by decide)) (T.hx 13 (by decide) (by decide)) (T.hx 14 (by decide) (by decide)) (T.hx 15 (by decide) (by decide)) (T.hx 16 (by decide) (by decide)) (T.hx 17 (by decide) (by decide)) (T.hx 18 (by decide) (by decide)) (T.hx 19 (by decide) (by decide)) T.x20 (T.hx 21 (by decide) (by decide)) (T.hx 22 (by decide) (by decide)) k1
 obtain ⟨ey, vy, ys, rfl, ly, p2⟩ := ACT_inv0 (b := 30) (T.hy 0 (by decide) (by decide)) (T.hy 1 (by decide) (by decide)) (T.hy 3 (by decide) (by decide)) (T.hy 4 (by decide) (by decide)) (T.hy 5 (by decide) (by decide)) (T.hy 6 (by decide) (by decide)) (T.hy 7 (by decide) (by decide)) (T.hy 8 (by decide) (by decide)) (T.hy 9 (by decide) (by decide)) (T.hy 10 (by decide) (by decide)) (T.hy 11 (by decide) (by decide)) (T.hy 12 (by decide) (by decide)) (T.hy 13 (by decide) (by decide)) (T.hy 14 (by decide) (by decide)) (T.hy 15 (by decide) (by decide)) (T.hy 16 (by decide) (by decide)) (T.hy 17 (by decide) (by decide)) (T.hy 18 (by decide) (by decide)) (T.hy 19 (by decide) (by decide)) T.y20 (T.hy 21 (by decide) (by decide)) (T.hy 22 (by decide) (by decide)) k2
 have hs : (decide ([IntKind.u8.wrap (x 0), IntKind.u8.wrap (x 1), IntKind.i64.wrap (x 2), IntKind.u8.wrap (x 3), IntKind.u32.wrap (x 4), IntKind.u8.wrap (x 5), IntKind.u32.wrap (x 6), IntKind.u8.wrap (x 7), IntKind.u32.wrap (x 8), IntKind.u32.wrap (x 9), IntKind.u8.wrap (x 10), IntKind.u8.wrap (x 11), IntKind.u64.wrap (x 12), IntKind.u8.wrap (x 13), IntKind.u32.wrap (x 14), IntKind.u8.wrap (x 15), IntKind.u32.wrap (x 16), IntKind.u32.wrap (x 17), IntKind.u32.wrap (x 18), IntKind.u32.wrap (x 19)] = [IntKind.u8.wrap (y 0), IntKind.u8.wrap (y 1), IntKind.i64.wrap (y 2), IntKind.u8.wrap (y 3), IntKind.u32.wrap (y 4), IntKind.u8.wrap (y 5), IntKind.u32.wrap (y 6), IntKind.u8.wrap (y 7), IntKind.u32.wrap (y 8), IntKind.u32.wrap (y 9), IntKind.u8.wrap (y 10), IntKind.u8.wrap (y 11), IntKind.u64.wrap (y 12), IntKind.u8.wrap (y 13), IntKind.u32.wrap (y 14), IntKind.u8.wrap (y 15), IntKind.u32.wrap (y 16), IntKind.u32.wrap (y 17), IntKind.u32.wrap (y 18), IntKind.u32.wrap (y 19)]) && decide (xs.map viewL = ys.map viewL) && decide ([IntKind.u8.wrap (x 21), IntKind.u32.wrap (x 22)] = [IntKind.u8.wrap (y 21), IntKind.u32.wrap (y 22)])) = _ := hs
 have := (bytes_same (t := 0) hs).2
 rw [← k3, p1, p2, this]
 exact beq_self_eq_true _
theorem eqs_no : LemIs ⟨[(theSame, false), (eqAt 0 30, true)], EQS (ACT (caT 0 true)) (ACT (caT 30 true)), false⟩ := fun ν h c hb => by
 obtain ⟨x, y, dx, dy, T⟩ := theSame_inv h.1
 have hs := T.hs
 obtain ⟨s, r, k1, k2, k3⟩ := eqs_den hb
 obtain ⟨u, w, m1, m2, m3⟩ := so_eql h.2.1
 obtain ⟨u0, g1, g2⟩ := den_convn m1
 obtain ⟨w0, f1, f2⟩ := den_convn m2
 obtain ⟨ex, vx, xs, rfl, lx, p1⟩ := ACT_inv0 (b := 0) (T.hx 0 (by decide) (by decide)) (T.hx 1 (by decide) (by decide)) (T.hx 3 (by decide) (by decide)) (T.hx 4 (by decide) (by decide)) (T.hx 5 (by decide) (by decide)) (T.hx 6 (by decide) (by decide)) (T.hx 7 (by decide) (by decide)) (T.hx 8 (by decide) (by decide)) (T.hx 9 (by decide) (by decide)) (T.hx 10 (by decide) (by decide)) (T.hx 11 (by decide) (by decide)) (T.hx 12 (by decide) (by decide)) (T.hx 13 (by decide) (by decide)) (T.hx 14 (by decide) (by decide)) (T.hx 15 (by decide) (by decide)) (T.hx 16 (by decide) (by decide)) (T.hx 17 (by decide) (by decide)) (T.hx 18 (by decide) (by decide)) (T.hx 19 (by decide) (by decide)) T.x20 (T.hx 21 (by decide) (by decide)) (T.hx 22 (by decide) (by decide)) k1
 obtain ⟨ey, vy, ys, rfl, ly, p2⟩ := ACT_inv0 (b := 30) (T.hy 0 (by decide) (by decide)) (T.hy 1 (by decide) (by decide)) (T.hy 3 (by decide) (by decide)) (T.hy 4 (by decide) (by decide)) (T.hy 5 (by decide) (by decide)) (T.hy 6 (by decide) (by decide)) (T.hy 7 (by decide) (by decide)) (T.hy 8 (by decide) (by decide)) (T.hy 9 (by decide) (by decide)) (T.hy 10 (by decide) (by decide)) (T.hy 11 (by decide) (by decide)) (T.hy 12 (by decide) (by decide)) (T.hy 13 (by decide) (by decide)) (T.hy 14 (by decide) (by decide)) (T.hy 15 (by decide) (by decide)) (T.hy 16 (by decide) (by decide)) (T.hy 17 (by decide) (by decide)) (T.hy 18 (by decide) (by decide)) (T.hy 19 (by decide) (by decide)) T.y20 (T.hy 21 (by decide) (by decide)) (T.hy 22 (by decide) (by decide)) k2
 have hs : (decide ([IntKind.u8.wrap (x 0), IntKind.u8.wrap (x 1), IntKind.i64.wrap (x 2), IntKind.u8.wrap (x 3), IntKind.u32.wrap (x 4), IntKind.u8.wrap (x 5), IntKind.u32.wrap (x 6), IntKind.u8.wrap (x 7), IntKind.u32.wrap (x 8), IntKind.u32.wrap (x 9), IntKind.u8.wrap (x 10), IntKind.u8.wrap (x 11), IntKind.u64.wrap (x 12), IntKind.u8.wrap (x 13), IntKind.u32.wrap (x 14), IntKind.u8.wrap (x 15), IntKind.u32.wrap (x 16), IntKind.u32.wrap (x 17), IntKind.u32.wrap (x 18), IntKind.u32.wrap (x 19)] = [IntKind.u8.wrap (y 0), IntKind.u8.wrap (y 1), IntKind.i64.wrap (y 2), IntKind.u8.wrap (y 3), IntKind.u32.wrap (y 4), IntKind.u8.wrap (y 5), IntKind.u32.wrap (y 6), IntKind.u8.wrap (y 7), IntKind.u32.wrap (y 8), IntKind.u32.wrap (y 9), IntKind.u8.wrap (y 10), IntKind.u8.wrap (y 11), IntKind.u64.wrap (y 12), IntKind.u8.wrap (y 13), IntKind.u32.wrap (y 14), IntKind.u8.wrap (y 15), IntKind.u32.wrap (y 16), IntKind.u32.wrap (y 17), IntKind.u32.wrap (y 18), IntKind.u32.wrap (y 19)]) && decide (xs.map viewL = ys.map viewL) && decide ([IntKind.u8.wrap (x 21), IntKind.u32.wrap (x 22)] = [IntKind.u8.wrap (y 21), IntKind.u32.wrap (y 22)])) = _ := hs
 have e1 := den_one (T.hx 2 (by decide) (by decide)) g1
 have e2 := den_one (T.hy 2 (by decide) (by decide)) f1
 subst e1 e2 g2 f2
 have hat := tru m3 rfl
 rw [← k3, p1, p2, beq_eq_false_iff_ne]
 intro he
 have := same_bytes0 lx ly hat he
 rw [this] at hs
 cases hs
theorem eqAt_isr : LemIs ⟨[(theSame, true)], eqAt 30 0, true⟩ := fun ν h c hb => by
 obtain ⟨x, y, dx, dy, T⟩ := theSame_inv h.1
 have hs := T.hs
 have hrow : ∃ e v xs e' v' ys, dx = .r e v xs ∧ dy = .r e' v' ys := by
  cases dx with
  | r e v xs =>
   cases dy with
   | r e' v' ys => exact ⟨_, _, _, _, _, _, rfl, rfl⟩
   | _ => cases hs
  | _ => cases hs
 obtain ⟨ex, vx, xs, ey, vy, ys, rfl, rfl⟩ := hrow
 have hs : (decide ([IntKind.u8.wrap (x 0), IntKind.u8.wrap (x 1), IntKind.i64.wrap (x 2), IntKind.u8.wrap (x 3), IntKind.u32.wrap (x 4), IntKind.u8.wrap (x 5), IntKind.u32.wrap (x 6), IntKind.u8.wrap (x 7), IntKind.u32.wrap (x 8), IntKind.u32.wrap (x 9), IntKind.u8.wrap (x 10), IntKind.u8.wrap (x 11), IntKind.u64.wrap (x 12), IntKind.u8.wrap (x 13), IntKind.u32.wrap (x 14), IntKind.u8.wrap (x 15), IntKind.u32.wrap (x 16), IntKind.u32.wrap (x 17), IntKind.u32.wrap (x 18), IntKind.u32.wrap (x 19)] = [IntKind.u8.wrap (y 0), IntKind.u8.wrap (y 1), IntKind.i64.wrap (y 2), IntKind.u8.wrap (y 3), IntKind.u32.wrap (y 4), IntKind.u8.wrap (y 5), IntKind.u32.wrap (y 6), IntKind.u8.wrap (y 7), IntKind.u32.wrap (y 8), IntKind.u32.wrap (y 9), IntKind.u8.wrap (y 10), IntKind.u8.wrap (y 11), IntKind.u64.wrap (y 12), IntKind.u8.wrap (y 13), IntKind.u32.wrap (y 14), IntKind.u8.wrap (y 15), IntKind.u32.wrap (y 16), IntKind.u32.wrap (y 17), IntKind.u32.wrap (y 18), IntKind.u32.wrap (y 19)]) && decide (xs.map viewL = ys.map viewL) && decide ([IntKind.u8.wrap (x 21), IntKind.u32.wrap (x 22)] = [IntKind.u8.wrap (y 21), IntKind.u32.wrap (y 22)])) = true := hs
 simp only [Bool.and_eq_true, decide_eq_true_eq, List.cons.injEq, and_true] at hs
 obtain ⟨u, w, k1, k2, k3⟩ := so_eql hb
 obtain ⟨u0, g1, g2⟩ := den_convn k1
 obtain ⟨w0, f1, f2⟩ := den_convn k2
 have e1 := den_one (T.hy 2 (by decide) (by decide)) g1
 have e2 := den_one (T.hx 2 (by decide) (by decide)) f1
 subst e1 e2 g2 f2
 rw [← k3]
 exact decide_eq_true hs.1.1.2.2.1.symm
theorem eqs_yesr : LemIs ⟨[(theSame, true)], EQS (ACT (caT 30 true)) (ACT (caT 0 true)), true⟩ := fun ν h c hb => by
 obtain ⟨x, y, dx, dy, T⟩ := theSame_inv h.1
 have hs := T.hs
 obtain ⟨s, r, k1, k2, k3⟩ := eqs_den hb
 obtain ⟨ex, vx, xs, rfl, lx, p1⟩ := ACT_inv0 (b := 0) (T.hx 0 (by decide) (by decide)) (T.hx 1 (by decide) (by decide)) (T.hx 3 (by decide) (by decide)) (T.hx 4 (by decide) (by decide)) (T.hx 5 (by decide) (by decide)) (T.hx 6 (by decide) (by decide)) (T.hx 7 (by decide) (by decide)) (T.hx 8 (by decide) (by decide)) (T.hx 9 (by decide) (by decide)) (T.hx 10 (by decide) (by decide)) (T.hx 11 (by decide) (by decide)) (T.hx 12 (by decide) (by decide)) (T.hx 13 (by decide) (by decide)) (T.hx 14 (by decide) (by decide)) (T.hx 15 (by decide) (by decide)) (T.hx 16 (by decide) (by decide)) (T.hx 17 (by decide) (by decide)) (T.hx 18 (by decide) (by decide)) (T.hx 19 (by decide) (by decide)) T.x20 (T.hx 21 (by decide) (by decide)) (T.hx 22 (by decide) (by decide)) k2
 obtain ⟨ey, vy, ys, rfl, ly, p2⟩ := ACT_inv0 (b := 30) (T.hy 0 (by decide) (by decide)) (T.hy 1 (by decide) (by decide)) (T.hy 3 (by decide) (by decide)) (T.hy 4 (by decide) (by decide)) (T.hy 5 (by decide) (by decide)) (T.hy 6 (by decide) (by decide)) (T.hy 7 (by decide) (by decide)) (T.hy 8 (by decide) (by decide)) (T.hy 9 (by decide) (by decide)) (T.hy 10 (by decide) (by decide)) (T.hy 11 (by decide) (by decide)) (T.hy 12 (by decide) (by decide)) (T.hy 13 (by decide) (by decide)) (T.hy 14 (by decide) (by decide)) (T.hy 15 (by decide) (by decide)) (T.hy 16 (by decide) (by decide)) (T.hy 17 (by decide) (by decide)) (T.hy 18 (by decide) (by decide)) (T.hy 19 (by decide) (by decide)) T.y20 (T.hy 21 (by decide) (by decide)) (T.hy 22 (by decide) (by decide)) k1
 have hs : (decide ([IntKind.u8.wrap (x 0), IntKind.u8.wrap (x 1), IntKind.i64.wrap (x 2), IntKind.u8.wrap (x 3), IntKind.u32.wrap (x 4), IntKind.u8.wrap (x 5), IntKind.u32.wrap (x 6), IntKind.u8.wrap (x 7), IntKind.u32.wrap (x 8), IntKind.u32.wrap (x 9), IntKind.u8.wrap (x 10), IntKind.u8.wrap (x 11), IntKind.u64.wrap (x 12), IntKind.u8.wrap (x 13), IntKind.u32.wrap (x 14), IntKind.u8.wrap (x 15), IntKind.u32.wrap (x 16), IntKind.u32.wrap (x 17), IntKind.u32.wrap (x 18), IntKind.u32.wrap (x 19)] = [IntKind.u8.wrap (y 0), IntKind.u8.wrap (y 1), IntKind.i64.wrap (y 2), IntKind.u8.wrap (y 3), IntKind.u32.wrap (y 4), IntKind.u8.wrap (y 5), IntKind.u32.wrap (y 6), IntKind.u8.wrap (y 7), IntKind.u32.wrap (y 8), IntKind.u32.wrap (y 9), IntKind.u8.wrap (y 10), IntKind.u8.wrap (y 11), IntKind.u64.wrap (y 12), IntKind.u8.wrap (y 13), IntKind.u32.wrap (y 14), IntKind.u8.wrap (y 15), IntKind.u32.wrap (y 16), IntKind.u32.wrap (y 17), IntKind.u32.wrap (y 18), IntKind.u32.wrap (y 19)]) && decide (xs.map viewL = ys.map viewL) && decide ([IntKind.u8.wrap (x 21), IntKind.u32.wrap (x 22)] = [IntKind.u8.wrap (y 21), IntKind.u32.wrap (y 22)])) = _ := hs
 have := (bytes_same (t := 0) hs).2
 rw [← k3, p1, p2, this]
 exact beq_self_eq_true _
theorem eqs_nor : LemIs ⟨[(theSame, false), (eqAt 30 0, true)], EQS (ACT (caT 30 true)) (ACT (caT 0 true)), false⟩ := fun ν h c hb => by
 obtain ⟨x, y, dx, dy, T⟩ := theSame_inv h.1
 have hs := T.hs
 obtain ⟨s, r, k1, k2, k3⟩ := eqs_den hb
 obtain ⟨u, w, m1, m2, m3⟩ := so_eql h.2.1
 obtain ⟨u0, g1, g2⟩ := den_convn m1
 obtain ⟨w0, f1, f2⟩ := den_convn m2
 obtain ⟨ex, vx, xs, rfl, lx, p1⟩ := ACT_inv0 (b := 0) (T.hx 0 (by decide) (by decide)) (T.hx 1 (by decide) (by decide)) (T.hx 3 (by decide) (by decide)) (T.hx 4 (by decide) (by decide)) (T.hx 5 (by decide) (by decide)) (T.hx 6 (by decide) (by decide)) (T.hx 7 (by decide) (by decide)) (T.hx 8 (by decide) (by decide)) (T.hx 9 (by decide) (by decide)) (T.hx 10 (by decide) (by decide)) (T.hx 11 (by decide) (by decide)) (T.hx 12 (by decide) (by decide)) (T.hx 13 (by decide) (by decide)) (T.hx 14 (by decide) (by decide)) (T.hx 15 (by decide) (by decide)) (T.hx 16 (by decide) (by decide)) (T.hx 17 (by decide) (by decide)) (T.hx 18 (by decide) (by decide)) (T.hx 19 (by decide) (by decide)) T.x20 (T.hx 21 (by decide) (by decide)) (T.hx 22 (by decide) (by decide)) k2
 obtain ⟨ey, vy, ys, rfl, ly, p2⟩ := ACT_inv0 (b := 30) (T.hy 0 (by decide) (by decide)) (T.hy 1 (by decide) (by decide)) (T.hy 3 (by decide) (by decide)) (T.hy 4 (by decide) (by decide)) (T.hy 5 (by decide) (by decide)) (T.hy 6 (by decide) (by decide)) (T.hy 7 (by decide) (by decide)) (T.hy 8 (by decide) (by decide)) (T.hy 9 (by decide) (by decide)) (T.hy 10 (by decide) (by decide)) (T.hy 11 (by decide) (by decide)) (T.hy 12 (by decide) (by decide)) (T.hy 13 (by decide) (by decide)) (T.hy 14 (by decide) (by decide)) (T.hy 15 (by decide) (by decide)) (T.hy 16 (by decide) (by decide)) (T.hy 17 (by decide) (by decide)) (T.hy 18 (by decide) (by decide)) (T.hy 19 (by decide) (by decide)) T.y20 (T.hy 21 (by decide) (by decide)) (T.hy 22 (by decide) (by decide)) k1
 have hs : (decide ([IntKind.u8.wrap (x 0), IntKind.u8.wrap (x 1), IntKind.i64.wrap (x 2), IntKind.u8.wrap (x 3), IntKind.u32.wrap (x 4), IntKind.u8.wrap (x 5), IntKind.u32.wrap (x 6), IntKind.u8.wrap (x 7), IntKind.u32.wrap (x 8), IntKind.u32.wrap (x 9), IntKind.u8.wrap (x 10), IntKind.u8.wrap (x 11), IntKind.u64.wrap (x 12), IntKind.u8.wrap (x 13), IntKind.u32.wrap (x 14), IntKind.u8.wrap (x 15), IntKind.u32.wrap (x 16), IntKind.u32.wrap (x 17), IntKind.u32.wrap (x 18), IntKind.u32.wrap (x 19)] = [IntKind.u8.wrap (y 0), IntKind.u8.wrap (y 1), IntKind.i64.wrap (y 2), IntKind.u8.wrap (y 3), IntKind.u32.wrap (y 4), IntKind.u8.wrap (y 5), IntKind.u32.wrap (y 6), IntKind.u8.wrap (y 7), IntKind.u32.wrap (y 8), IntKind.u32.wrap (y 9), IntKind.u8.wrap (y 10), IntKind.u8.wrap (y 11), IntKind.u64.wrap (y 12), IntKind.u8.wrap (y 13), IntKind.u32.wrap (y 14), IntKind.u8.wrap (y 15), IntKind.u32.wrap (y 16), IntKind.u32.wrap (y 17), IntKind.u32.wrap (y 18), IntKind.u32.wrap (y 19)]) && decide (xs.map viewL = ys.map viewL) && decide ([IntKind.u8.wrap (x 21), IntKind.u32.wrap (x 22)] = [IntKind.u8.wrap (y 21), IntKind.u32.wrap (y 22)])) = _ := hs
 have e1 := den_one (T.hy 2 (by decide) (by decide)) g1
 have e2 := den_one (T.hx 2 (by decide) (by decide)) f1
 subst e1 e2 g2 f2
 have hat := tru m3 rfl
 rw [← k3, p1, p2, beq_eq_false_iff_ne]
 intro he
 have := same_bytes0 lx ly hat.symm he.symm
 rw [this] at hs
 cases hs
theorem put_yes : LemIs ⟨[(theSame, true)], EQS (hdrT 0) (hdrT 30), true⟩ := fun ν h c hb => by
 obtain ⟨x, y, dx, dy, T⟩ := theSame_inv h.1
 have hs := T.hs
 obtain ⟨s, r, k1, k2, k3⟩ := eqs_den hb
 obtain ⟨p, q, g1, g2, g3⟩ := hdr_den k1
 obtain ⟨p', q', f1, f2, f3⟩ := hdr_den k2
 rw [g1] at f1
 injection f1 with f1
 injection f1 with f1
 subst f1 g3 f3
 obtain ⟨ex, vx, xs, rfl, lx, p1⟩ := ACT_inv1 (b := 0) (T.hx 0 (by decide) (by decide)) (T.hx 1 (by decide) (by decide)) (T.hx 2 (by decide) (by decide)) (T.hx 3 (by decide) (by decide)) (T.hx 4 (by decide) (by decide)) (T.hx 5 (by decide) (by decide)) (T.hx 6 (by decide) (by decide)) (T.hx 7 (by decide) (by decide)) (T.hx 8 (by decide) (by decide)) (T.hx 9 (by decide) (by decide)) (T.hx 10 (by decide) (by decide)) (T.hx 11 (by decide) (by decide)) (T.hx 12 (by decide) (by decide)) (T.hx 13 (by decide) (by decide)) (T.hx 14 (by decide) (by decide)) (T.hx 15 (by decide) (by decide)) (T.hx 16 (by decide) (by decide)) (T.hx 17 (by decide) (by decide)) (T.hx 18 (by decide) (by decide)) (T.hx 19 (by decide) (by decide)) T.x20 (T.hx 21 (by decide) (by decide)) (T.hx 22 (by decide) (by decide)) g2
 obtain ⟨ey, vy, ys, rfl, ly, p2⟩ := ACT_inv1 (b := 30) (T.hy 0 (by decide) (by decide)) (T.hy 1 (by decide) (by decide)) (T.hy 2 (by decide) (by decide)) (T.hy 3 (by decide) (by decide)) (T.hy 4 (by decide) (by decide)) (T.hy 5 (by decide) (by decide)) (T.hy 6 (by decide) (by decide)) (T.hy 7 (by decide) (by decide)) (T.hy 8 (by decide) (by decide)) (T.hy 9 (by decide) (by decide)) (T.hy 10 (by decide) (by decide)) (T.hy 11 (by decide) (by decide)) (T.hy 12 (by decide) (by decide)) (T.hy 13 (by decide) (by decide)) (T.hy 14 (by decide) (by decide)) (T.hy 15 (by decide) (by decide)) (T.hy 16 (by decide) (by decide)) (T.hy 17 (by decide) (by decide)) (T.hy 18 (by decide) (by decide)) (T.hy 19 (by decide) (by decide)) T.y20 (T.hy 21 (by decide) (by decide)) (T.hy 22 (by decide) (by decide)) f2
 have hs : (decide ([IntKind.u8.wrap (x 0), IntKind.u8.wrap (x 1), IntKind.i64.wrap (x 2), IntKind.u8.wrap (x 3), IntKind.u32.wrap (x 4), IntKind.u8.wrap (x 5), IntKind.u32.wrap (x 6), IntKind.u8.wrap (x 7), IntKind.u32.wrap (x 8), IntKind.u32.wrap (x 9), IntKind.u8.wrap (x 10), IntKind.u8.wrap (x 11), IntKind.u64.wrap (x 12), IntKind.u8.wrap (x 13), IntKind.u32.wrap (x 14), IntKind.u8.wrap (x 15), IntKind.u32.wrap (x 16), IntKind.u32.wrap (x 17), IntKind.u32.wrap (x 18), IntKind.u32.wrap (x 19)] = [IntKind.u8.wrap (y 0), IntKind.u8.wrap (y 1), IntKind.i64.wrap (y 2), IntKind.u8.wrap (y 3), IntKind.u32.wrap (y 4), IntKind.u8.wrap (y 5), IntKind.u32.wrap (y 6), IntKind.u8.wrap (y 7), IntKind.u32.wrap (y 8), IntKind.u32.wrap (y 9), IntKind.u8.wrap (y 10), IntKind.u8.wrap (y 11), IntKind.u64.wrap (y 12), IntKind.u8.wrap (y 13), IntKind.u32.wrap (y 14), IntKind.u8.wrap (y 15), IntKind.u32.wrap (y 16), IntKind.u32.wrap (y 17), IntKind.u32.wrap (y 18), IntKind.u32.wrap (y 19)]) && decide (xs.map viewL = ys.map viewL) && decide ([IntKind.u8.wrap (x 21), IntKind.u32.wrap (x 22)] = [IntKind.u8.wrap (y 21), IntKind.u32.wrap (y 22)])) = _ := hs
 have := (bytes_same (t := 0) hs).1
 rw [← k3, p1, p2, this]
 exact beq_self_eq_true _
theorem put_no : LemIs ⟨[(theSame, false)], EQS (hdrT 0) (hdrT 30), false⟩ := fun ν h c hb => by
 obtain ⟨x, y, dx, dy, T⟩ := theSame_inv h.1
 have hs := T.hs
 obtain ⟨s, r, k1, k2, k3⟩ := eqs_den hb
 obtain ⟨p, q, g1, g2, g3⟩ := hdr_den k1
 obtain ⟨p', q', f1, f2, f3⟩ := hdr_den k2
 rw [g1] at f1
 injection f1 with f1
 injection f1 with f1
 subst f1 g3 f3
 obtain ⟨ex, vx, xs, rfl, lx, p1⟩ := ACT_inv1 (b := 0) (T.hx 0 (by decide) (by decide)) (T.hx 1 (by decide) (by decide)) (T.hx 2 (by decide) (by decide)) (T.hx 3 (by decide) (by decide)) (T.hx 4 (by decide) (by decide)) (T.hx 5 (by decide) (by decide)) (T.hx 6 (by decide) (by decide)) (T.hx 7 (by decide) (by decide)) (T.hx 8 (by decide) (by decide)) (T.hx 9 (by decide) (by decide)) (T.hx 10 (by decide) (by decide)) (T.hx 11 (by decide) (by decide)) (T.hx 12 (by decide) (by decide)) (T.hx 13 (by decide) (by decide)) (T.hx 14 (by decide) (by decide)) (T.hx 15 (by decide) (by decide)) (T.hx 16 (by decide) (by decide)) (T.hx 17 (by decide) (by decide)) (T.hx 18 (by decide) (by decide)) (T.hx 19 (by decide) (by decide)) T.x20 (T.hx 21 (by decide) (by decide)) (T.hx 22 (by decide) (by decide)) g2
 obtain ⟨ey, vy, ys, rfl, ly, p2⟩ := ACT_inv1 (b := 30) (T.hy 0 (by decide) (by decide)) (T.hy 1 (by decide) (by decide)) (T.hy 2 (by decide) (by decide)) (T.hy 3 (by decide) (by decide)) (T.hy 4 (by decide) (by decide)) (T.hy 5 (by decide) (by decide)) (T.hy 6 (by decide) (by decide)) (T.hy 7 (by decide) (by decide)) (T.hy 8 (by decide) (by decide)) (T.hy 9 (by decide) (by decide)) (T.hy 10 (by decide) (by decide)) (T.hy 11 (by decide) (by decide)) (T.hy 12 (by decide) (by decide)) (T.hy 13 (by decide) (by decide)) (T.hy 14 (by decide) (by decide)) (T.hy 15 (by decide) (by decide)) (T.hy 16 (by decide) (by decide)) (T.hy 17 (by decide) (by decide)) (T.hy 18 (by decide) (by decide)) (T.hy 19 (by decide) (by decide)) T.y20 (T.hy 21 (by decide) (by decide)) (T.hy 22 (by decide) (by decide)) f2
 have hs : (decide ([IntKind.u8.wrap (x 0), IntKind.u8.wrap (x 1), IntKind.i64.wrap (x 2), IntKind.u8.wrap (x 3), IntKind.u32.wrap (x 4), IntKind.u8.wrap (x 5), IntKind.u32.wrap (x 6), IntKind.u8.wrap (x 7), IntKind.u32.wrap (x 8), IntKind.u32.wrap (x 9), IntKind.u8.wrap (x 10), IntKind.u8.wrap (x 11), IntKind.u64.wrap (x 12), IntKind.u8.wrap (x 13), IntKind.u32.wrap (x 14), IntKind.u8.wrap (x 15), IntKind.u32.wrap (x 16), IntKind.u32.wrap (x 17), IntKind.u32.wrap (x 18), IntKind.u32.wrap (x 19)] = [IntKind.u8.wrap (y 0), IntKind.u8.wrap (y 1), IntKind.i64.wrap (y 2), IntKind.u8.wrap (y 3), IntKind.u32.wrap (y 4), IntKind.u8.wrap (y 5), IntKind.u32.wrap (y 6), IntKind.u8.wrap (y 7), IntKind.u32.wrap (y 8), IntKind.u32.wrap (y 9), IntKind.u8.wrap (y 10), IntKind.u8.wrap (y 11), IntKind.u64.wrap (y 12), IntKind.u8.wrap (y 13), IntKind.u32.wrap (y 14), IntKind.u8.wrap (y 15), IntKind.u32.wrap (y 16), IntKind.u32.wrap (y 17), IntKind.u32.wrap (y 18), IntKind.u32.wrap (y 19)]) && decide (xs.map viewL = ys.map viewL) && decide ([IntKind.u8.wrap (x 21), IntKind.u32.wrap (x 22)] = [IntKind.u8.wrap (y 21), IntKind.u32.wrap (y 22)])) = _ := hs
 rw [← k3, beq_eq_false_iff_ne]
 intro he
 have he := List.append_cancel_left he
 rw [p1, p2] at he
 have := same_bytes1 lx ly he
 rw [this] at hs
 cases hs
theorem refl_at {b : Nat} : LemIs ⟨[], eqAt b b, true⟩ := fun ν _ c hb => by
 obtain ⟨u, w, k1, k2, k3⟩ := so_eql hb
 rw [← k3]
 exact decide_eq_true (den_one k1 k2)
theorem refl_eqs {t : Tm} : LemIs ⟨[], EQS t t, true⟩ := fun ν _ c hb => by
 obtain ⟨s, r, k1, k2, k3⟩ := eqs_den hb
 rw [k1] at k2
 injection k2 with k2
 injection k2 with k2
 subst k2
 rw [← k3]
 exact beq_self_eq_true _
theorem lem0_ok : LemOk lem0 :=
 lemOk_append (lemOk_append (lemOk_append (lemOk_append (lemOk_append lemAsk_ok
  (lemOk_cons lemM1_is (lemOk_cons lemM2_is (lemOk_cons lemM0_is (lemOk_cons lemI_is (lemOk_cons lemS1_is (lemOk_cons lemG1_is (lemOk_cons lemG2_is lemOk_nil))))))))
  (lemOk_cons refl_at (lemOk_cons refl_eqs lemOk_nil)))
  (lemOk_cons eqAt_is (lemOk_cons eqs_yes (lemOk_cons eqs_no lemOk_nil))))
  (lemOk_cons eqAt_isr (lemOk_cons eqs_yesr (lemOk_cons eqs_nor lemOk_nil))))
  (lemOk_cons put_yes (lemOk_cons put_no lemOk_nil))
end
end Go.Proofs.YtcjbpaiomcfgnaaGreatDoor
