/- ScriptSame: terms; what is known of them. No program in sight. -/
import Derived.Test.YtcjbpaiomcfgnaaGreatDoorGf
set_option linter.unusedVariables false
set_option linter.unusedSimpArgs false
namespace Go.Proofs.YtcjbpaiomcfgnaaGreatDoor
open Go
def NUM (n : Tm) : Tm := .f 100 [n]
def numT (n : Tm) : Nat → Tm → Tm
 | 0, a => a
 | k + 1, a => numT n k (CAT a (BYTES [.conv .u8 (SHR n (8 * k))]))
def numHs (n : Tm) (k : Nat) : List (Tm × Bool) :=
 (.bin .geq .u64 n (.c 0), true) :: (.bin .leq .u64 n (.c IntKind.u64.max), true) :: (.bin .lss .u64 n (.c 128), false) :: ((if k < 8 then [(.bin .gtr .u64 (SHR n (8 * k)) (.c 0), false)] else []) ++ (if 2 ≤ k then [(.bin .gtr .u64 (SHR n (8 * (k - 1))) (.c 0), true)] else []))
def preT (p : Option Tm) (t : Tm) : Tm := match p with | none => t | some p => CAT p t
def numEq (p : Option Tm) (n : Tm) (k : Nat) : TEq := ⟨numHs n k, preT p (NUM n), numT n k (preT p (BYTES [.c (128 + k)]))⟩
def numEq0 (p : Option Tm) (n : Tm) : TEq := ⟨[(.bin .geq .u64 n (.c 0), true), (.bin .lss .u64 n (.c 128), true)], preT p (NUM n), preT p (BYTES [.conv .u8 n])⟩
def numEqs (p : Option Tm) (n : Tm) : List TEq := [numEq0 p n, numEq p n 1, numEq p n 2, numEq p n 3, numEq p n 4, numEq p n 5, numEq p n 6, numEq p n 7, numEq p n 8]
def teqNum : List TEq := numEqs none (.x 1) ++ numEqs (some (.x 0)) (.x 1)
def small (t : Tm) : Tm × Bool := (.bin .leq .i64 (LEN t) (.c 900000), true)
def ks : List IntKind := [.u8, .u8, .i64, .u8, .u32, .u8, .u32, .u8, .u32, .u32, .u8, .u8, .u64, .u8, .u32, .u8, .u32, .u32, .u32, .u32]
def lc (t i : Tm) : Nat → Tm
 | 0 => .conv .u8 (CELL t i 0)
 | 1 => .conv .u32 (CELL t i 1)
 | 2 => .conv .u8 (CELL t i 2)
 | _ => .conv .u32 (CELL t i 3)
def EL (a b i : Tm) : Tm := AND (AND (.bin .eql .u8 (lc a i 0) (lc b i 0)) (.bin .eql .u32 (lc a i 1) (lc b i 1))) (AND (.bin .eql .u8 (lc a i 2) (lc b i 2)) (.bin .eql .u32 (lc a i 3) (lc b i 3)))
def LINES (t i : Tm) : Tm := .f 101 [t, i]
def PREF (a b i : Tm) : Tm := .f 104 [a, b, i]
def SAMEL (a b : Tm) : Tm := .f 105 [a, b]
def SAMEQ (l : List Tm) : Tm := .f 106 l
def ACT (l : List Tm) : Tm := .f 102 l
def neLen (a b : Tm) : Tm × Bool := (.bin .neq .i64 (LEN a) (LEN b), false)
def lemP0 (a b : Tm) : Lem := ⟨[isRow a, isRow b], PREF a b (.c 0), true⟩
def lemP1 (a b i : Tm) : Lem := ⟨[(PREF a b i, true), (EL a b i, true), ltLen i a true, neLen a b, ge0 i, le300 a], PREF a b (add1 i), true⟩
def lemPy (a b i : Tm) : Lem := ⟨[(PREF a b i, true), ltLen i a false, leLen i a, neLen a b, ge0 i, le300 a], SAMEL a b, true⟩
def lemPn (a b i : Tm) : Lem := ⟨[(EL a b i, false), ltLen i a true, neLen a b, ge0 i, le300 a], SAMEL a b, false⟩
def kindsR : List IntKind := ks.drop 3
def reqT (b : Nat) : List Tm := varsT 18 (b + 3)
def actT (b : Nat) : List Tm := varsT 23 b
def rowHs (t : Tm) : List (Tm × Bool) := [ge0 (LEN t), le300 t, isRow t]
def reqHs (b : Nat) : List (Tm × Bool) := rngL kindsR (b + 3) ++ rowHs (.x (b + 20))
def lemLt (a b i : Tm) : Lem := ⟨[ltLen i a true, neLen a b], .bin .lss .i64 i (LEN b), true⟩
def lemAsk : List Lem := [lemLt (.x 20) (.x 50) (.x 60), lemM1 (.x 20) (.x 60), lemM2 (.x 20) (.x 60), lemM0 (.x 20) (.x 60), lemI (.x 20) (.x 60), lemP0 (.x 20) (.x 50), lemP1 (.x 20) (.x 50) (.x 60), lemPy (.x 20) (.x 50) (.x 60), lemPn (.x 20) (.x 50) (.x 60)]
def reqDef (b : Nat) : List (Tm × Bool) := isRow (.x (b + 20)) :: defL kindsR (b + 3)
def eqD (i j : Nat) : Tm := AND (.bin .eql .u8 (.x i) (.x j)) (.bin .eql .u32 (.x (i + 1)) (.x (j + 1)))
def reqParts : List (Nat × Option IntKind) := [(3, some .u8), (4, some .u32), (5, none), (7, none), (9, some .u32), (10, some .u8), (11, some .u8), (12, some .u64), (13, none), (15, none), (17, some .u32), (18, some .u32), (19, some .u32)]
def neP (a b : Nat) (p : Nat × Option IntKind) : Tm := match p.2 with
 | some k => .bin .neq k (.x (a + p.1)) (.x (b + p.1))
 | none => .f 10 [eqD (a + p.1) (b + p.1)]
def askNo (a b : Nat) (p : Nat × Option IntKind) : TEq := ⟨(neP a b p, true) :: (reqDef a ++ reqDef b), SAMEQ (reqT a ++ reqT b), .c 0⟩
def askEqs (a b : Nat) : List TEq :=
 ⟨(SAMEL (.x (a + 20)) (.x (b + 20)), true) :: (.bin .neq .i64 (LEN (.x (a + 20))) (LEN (.x (b + 20))), false) :: (reqParts.map fun p => (neP a b p, false)) ++ (reqDef a ++ reqDef b), SAMEQ (reqT a ++ reqT b), .c 1⟩ ::
 ⟨(SAMEL (.x (a + 20)) (.x (b + 20)), false) :: (reqDef a ++ reqDef b), SAMEQ (reqT a ++ reqT b), .c 0⟩ ::
 ⟨(.bin .neq .i64 (LEN (.x (a + 20))) (LEN (.x (b + 20))), true) :: (reqDef a ++ reqDef b), SAMEQ (reqT a ++ reqT b), .c 0⟩ :: reqParts.map (askNo a b)
def lim36 (t i : Tm) : Tm := .bin .leq .i64 (LEN t) (.bin .add .i64 (.c 110000) (.bin .mul .i64 (.c 36) i))
def line4 (t r i : Tm) : Tm := CAT (CAT (CAT (CAT t (NUM (u64 (lc r i 0)))) (NUM (u64 (lc r i 1)))) (NUM (u64 (lc r i 2)))) (NUM (u64 (lc r i 3)))
def lemS1 (t r i : Tm) : Lem := ⟨[(lim36 t i, true), ge0 i, ltLen i r true, le300 r], lim36 (line4 t r i) (add1 i), true⟩
def linesEq1 (t r i : Tm) : TEq := ⟨[ltLen i r true, ge0 i, le300 r, ltLen (add1 i) r false], CAT t (LINES r i), line4 t r i⟩
def linesEq2 (t r i : Tm) : TEq := ⟨[ltLen i r true, ge0 i, le300 r], CAT t (LINES r i), CAT (line4 t r i) (LINES r (add1 i))⟩
def actNums (b : Nat) : List Tm := [u64 (.x b), u64 (.x (b + 1)), u64 (.x (b + 2)), u64 (u32 (.x (b + 3))), u64 (.x (b + 4)), u64 (.x (b + 5)), u64 (.x (b + 6)), u64 (.x (b + 7)), u64 (.x (b + 8)), u64 (.x (b + 9)), u64 (u32 (.x (b + 10))), u64 (u32 (.x (b + 11))), .x (b + 12), u64 (.x (b + 13)), u64 (.x (b + 14)), u64 (.x (b + 15)), u64 (.x (b + 16)), u64 (.x (b + 17)), u64 (.x (b + 18)), u64 (.x (b + 19)), u64 (u32 (LEN (.x (b + 20))))]
def dNums (b : Nat) : List Tm := [u64 (.x (b + 21)), u64 (.x (b + 22))]
def catN : Tm → List Tm → Tm
 | t, [] => t
 | t, n :: l => catN (CAT t (NUM n)) l
def catN0 : List Tm → Tm
 | [] => .c 0
 | n :: l => catN (NUM n) l
def putOut (p : Option Tm) (b : Nat) (z : Bool) : Tm :=
 let a := match p with
  | some t => catN t (actNums b)
  | none => catN0 (actNums b)
 catN (match z with | true => CAT a (LINES (.x (b + 20)) (.c 0)) | false => a) (dNums b)
def putEq (p : Option Tm) (b : Nat) (z : Bool) : TEq := ⟨[ltLen (.c 0) (.x (b + 20)) z, le300 (.x (b + 20)), isRow (.x (b + 20))], preT p (ACT (actT b)), putOut p b z⟩
def sz (t : Tm) : Tm × Bool := (.bin .leq .i64 (LEN t) (.c 1000000000000000), true)
def lemD0 : List Lem := [lemPy (.x 20) (.x 50) (.x 60), lemPn (.x 20) (.x 50) (.x 60)]
end Go.Proofs.YtcjbpaiomcfgnaaGreatDoor
namespace Go.Proofs.YtcjbpaiomcfgnaaGreatDoor
open Go
theorem cntB_eq {n k : Nat} (hk : 1 ≤ k) (hk8 : k ≤ 8) (h1 : k < 8 → n < 256 ^ k) (h2 : 2 ≤ k → 256 ^ (k - 1) ≤ n) : cntB n = k := by
 obtain h | h | h | h | h | h | h | h : k = 1 ∨ k = 2 ∨ k = 3 ∨ k = 4 ∨ k = 5 ∨ k = 6 ∨ k = 7 ∨ k = 8 := by omega
 all_goals
  subst h
  simp only [Nat.reducePow, Nat.reduceSub, Nat.reduceLT, Nat.reduceLeDiff, forall_const, true_implies, false_implies] at h1 h2
  unfold cntB
  repeat' split
  all_goals omega
theorem cntB_lt {n : Nat} (h : n < 18446744073709551616) : n < 256 ^ cntB n := by
 unfold cntB
 repeat' split
 all_goals simp only [Nat.reducePow]
 all_goals omega
theorem cntB_pos (n : Nat) : 1 ≤ cntB n := by
 unfold cntB
 repeat' split
 all_goals omega
theorem ofNat_inj {a b : Nat} (ha : a < 256) (hb : b < 256) (h : UInt8.ofNat a = UInt8.ofNat b) : a = b := by
 have := congrArg UInt8.toNat h
 simp only [UInt8.toNat_ofNat'] at this
 omega
end Go.Proofs.YtcjbpaiomcfgnaaGreatDoor
namespace Go.Proofs.YtcjbpaiomcfgnaaGreatDoor
open Go
section
variable {ν : Nm}
theorem flat_n {b : Bool} : flatU (some (n01 b)) = some (b01 b) := rfl
theorem NB_wrap (n : Int) : NB (IntKind.u64.wrap n) = NB n := by
 unfold NB w64
 rw [wrap_in (wrap_rng .u64 n).1 (wrap_rng .u64 n).2]
theorem den_NUM {n : Tm} {d : Dat} : denT ν (NUM n) = some d ↔ ∃ x, denT ν n = some (.n x) ∧ d = .s (NB x) := by
 unfold NUM
 rw [den_U (by omega)]
 constructor
 ·rintro ⟨ds, h1, h2⟩
  obtain ⟨x, h3, rfl⟩ := denTs_one.1 h1
  cases x with
  | n x => exact ⟨x, h3, by simpa [progU, flatU] using h2.symm⟩
  | _ => simp [progU, flatU] at h2
 ·rintro ⟨x, h1, rfl⟩
  exact ⟨[.n x], denTs_one.2 ⟨_, h1, rfl⟩, rfl⟩
theorem den_LINES {t i : Tm} {d : Dat} : denT ν (LINES t i) = some d ↔ ∃ e v xs m, denT ν t = some (.r e v xs) ∧ denT ν i = some (.n m) ∧ (0 ≤ m ∧ xs.length ≤ 300) ∧ d = .s (linesB (xs.drop m.toNat)) := by
 unfold LINES
 rw [den_U (by omega)]
 constructor
 ·rintro ⟨ds, h1, h2⟩
  obtain ⟨x, y, h3, h4, rfl⟩ := denTs_two.1 h1
  have h2 := h2
  cases x with
  | r e v xs =>
   cases y with
   | n m =>
    simp only [progU] at h2
    split at h2
    ·rename_i hc
     exact ⟨e, v, xs, m, h3, h4, hc, by simpa [flatU] using h2.symm⟩
    ·simp [flatU] at h2
   | _ => simp [progU, flatU] at h2
  | _ => simp [progU, flatU] at h2
 ·rintro ⟨e, v, xs, m, h1, h2, hc, rfl⟩
  refine ⟨[.r e v xs, .n m], denTs_two.2 ⟨_, _, h1, h2, rfl⟩, ?_⟩
  simp only [progU, if_pos hc, flatU]
theorem den_PREF {a b i : Tm} {e e' : TypeId} {v v' : Value} {xs ys : List Dat} {m : Int} (h1 : denT ν a = some (.r e v xs)) (h2 : denT ν b = some (.r e' v' ys)) (h3 : denT ν i = some (.n m)) : denT ν (PREF a b i) = some (b01 (decide ((xs.take m.toNat).map viewL = (ys.take m.toNat).map viewL))) :=
 (den_U (by omega)).2 ⟨_, denTs_mk h1 (denTs_mk h2 (denTs_mk h3 rfl)), rfl⟩
theorem PREF_rows {a b i : Tm} (h : IsSo ν (PREF a b i) true) : ∃ e v xs e' v' ys m, denT ν a = some (.r e v xs) ∧ denT ν b = some (.r e' v' ys) ∧ denT ν i = some (.n m) ∧ (xs.take m.toNat).map viewL = (ys.take m.toNat).map viewL := by
 obtain ⟨n, h1, h2⟩ := h
 obtain ⟨ds, h3, h4⟩ := (den_U (by omega)).1 h1
 obtain ⟨x, r1, g1, q1, rfl⟩ := denTs_cons h3
 obtain ⟨y, r2, g2, q2, rfl⟩ := denTs_cons q1
 obtain ⟨z, r3, g3, q3, rfl⟩ := denTs_cons q2
 rw [denTs_nil q3] at h4
 unfold progU at h4
 simp only at h4
 split at h4
 ·rename_i e1 v1 xs e2 v2 ys m hq
  simp only [List.cons.injEq] at hq
  obtain ⟨rfl, rfl, rfl, _⟩ := hq
  refine ⟨_, _, xs, _, _, ys, m, g1, g2, g3, ?_⟩
  rw [flat_n] at h4
  exact tru (so_b01 (h1.trans h4.symm) ⟨n, h1, h2⟩) rfl
 ·rw [flat_n] at h4
  have := so_b01 (h1.trans h4.symm) ⟨n, h1, h2⟩
  cases this
theorem den_SAMEL {a b : Tm} {e e' : TypeId} {v v' : Value} {xs ys : List Dat} (h1 : denT ν a = some (.r e v xs)) (h2 : denT ν b = some (.r e' v' ys)) : denT ν (SAMEL a b) = some (b01 (decide (xs.map viewL = ys.map viewL))) :=
 (den_U (by omega)).2 ⟨_, denTs_mk h1 (denTs_mk h2 rfl), rfl⟩
theorem shr8 {x : Int} (h : 0 ≤ x) (k : Nat) : x.fdiv (2 ^ (8 * (k : Int)).toNat) = ((x.toNat / 256 ^ k : Nat) : Int) := by
 have e : (8 * (k : Int)).toNat = 8 * k := by omega
 have e2 : (2 : Int) ^ (8 * k) = ((256 ^ k : Nat) : Int) := by
  rw [Int.pow_mul]
  norm_cast
 rw [e, e2]
 obtain ⟨m, rfl⟩ := Int.eq_ofNat_of_zero_le h
 rw [Int.fdiv_eq_ediv_of_nonneg _ (Int.natCast_nonneg _)]
 norm_cast
theorem u8_ofNat (m : Nat) : UInt8.ofNat (IntKind.u8.wrap (m : Int)).toNat = UInt8.ofNat m := by
 have h : (IntKind.u8.wrap (m : Int)).toNat = m % 256 := by
  simp only [IntKind.wrap, IntKind.bits, IntKind.signed]
  simp
  omega
 rw [h]
 apply UInt8.toNat_inj.1
 simp
theorem den_byte {t : Tm} {d : Dat} (h : denT ν (BYTES [.conv .u8 t]) = some d) : ∃ x, denT ν t = some (.n x) ∧ d = .s [UInt8.ofNat (IntKind.u8.wrap x).toNat] := by
 obtain ⟨ds, bs, h1, h2, rfl⟩ := den_f3.1 h
 obtain ⟨y, h3, rfl⟩ := denTs_one.1 h1
 obtain ⟨x, h4, rfl⟩ := den_conv.1 h3
 refine ⟨x, h4, ?_⟩
 simp only [bytesD] at h2
 split at h2
 ·rename_i m e1 e2
  injection h2 with h2
  injection e2 with e2
  subst h2 e2
  rfl
 ·cases h2
theorem numT_den {n : Tm} {x : Int} (hn : denT ν n = some (.n x)) (h0 : 0 ≤ x) : ∀ (k : Nat) {a : Tm} {d : Dat}, denT ν (numT n k a) = some d → ∃ s, denT ν a = some (.s s) ∧ d = .s (s ++ beB k x.toNat) ∨ (k = 0 ∧ denT ν a = some d)
 | 0, a, d, h => ⟨[], .inr ⟨rfl, h⟩⟩
 | k + 1, a, d, h => by
  unfold numT at h
  obtain ⟨s, h1⟩ := numT_den hn h0 k h
  have key : ∃ s0, denT ν a = some (.s s0) ∧ denT ν (CAT a (BYTES [.conv .u8 (SHR n (8 * k))])) = some (.s (s0 ++ [UInt8.ofNat (x.toNat / 256 ^ k)])) := by
   have hc : ∃ d', denT ν (CAT a (BYTES [.conv .u8 (SHR n (8 * k))])) = some d' := by
    rcases h1 with ⟨h1, _⟩ | ⟨_, h1⟩
    ·exact ⟨_, h1⟩
    ·exact ⟨_, h1⟩
   obtain ⟨d', hd'⟩ := hc
   rcases den_f2.1 hd' with ⟨p, q, g1, g2, g3⟩ | ⟨p, q, g1, g2, g3⟩
   ·obtain ⟨y, g4, g5⟩ := den_byte g2
    obtain ⟨m, c, g6, g7, g8⟩ := den_f6.1 g4
    have e1 := den_one hn g6
    have e2 := den_c g7
    injection g8 with g8
    subst e1 e2
    rw [shr8 h0] at g8
    subst g8
    rw [u8_ofNat] at g5
    injection g5 with g5
    subst g5 g3
    exact ⟨p, g1, hd'⟩
   ·obtain ⟨y, g4, g5⟩ := den_byte g2
    cases g5
  obtain ⟨s0, k1, k2⟩ := key
  refine ⟨s0, .inl ⟨k1, ?_⟩⟩
  rcases h1 with ⟨h1, h2⟩ | ⟨rfl, h1⟩
  ·rw [k2] at h1
   injection h1 with h1
   injection h1 with h1
   subst h1 h2
   simp [beB]
  ·rw [k2] at h1
   injection h1 with h1
   subst h1
   simp [beB]
end
end Go.Proofs.YtcjbpaiomcfgnaaGreatDoor
namespace Go.Proofs.YtcjbpaiomcfgnaaGreatDoor
open Go
section
variable {ν : Nm}
theorem all_app : ∀ {l m : List (Tm × Bool)}, AllSo ν (l ++ m) → AllSo ν l ∧ AllSo ν m
 | [], _, h => ⟨trivial, h⟩
 | _ :: _, _, h => ⟨⟨h.1, (all_app h.2).1⟩, (all_app h.2).2⟩
theorem w64_in {x : Int} (h0 : 0 ≤ x) (h1 : x ≤ 18446744073709551615) : w64 x = x.toNat := by
 unfold w64
 rw [wrap_in (k := .u64) h0 h1]
theorem den_const {m : Nat} {d : Dat} (h : denT ν (BYTES [.c (m : Int)]) = some d) : d = .s [UInt8.ofNat m] := by
 obtain ⟨ds, bs, h1, h2, rfl⟩ := den_f3.1 h
 obtain ⟨y, h3, rfl⟩ := denTs_one.1 h1
 simp only [denT, Option.some.injEq] at h3
 subst h3
 simp only [bytesD] at h2
 split at h2
 ·rename_i m' e1 e2
  have h2 := Option.some.inj h2
  have e2 := Option.some.inj e2
  subst h2 e2
  rw [Int.toNat_natCast]
 ·cases h2
theorem pre_den {p : Option Tm} {t : Tm} {s : List UInt8} (h : denT ν (preT p t) = some (.s s)) (ht : ∀ d, denT ν t = some d → ∃ r, d = .s r) : ∃ pre r, denT ν t = some (.s r) ∧ s = pre ++ r ∧ ∀ (u : Tm) (r' : List UInt8), denT ν u = some (.s r') → denT ν (preT p u) = some (.s (pre ++ r')) := by
 cases p with
 | none => exact ⟨[], s, h, rfl, fun u r' hu => hu⟩
 | some p =>
  rcases den_f2.1 h with ⟨x, y, h1, h2, h3⟩ | ⟨x, y, h1, h2, h3⟩
  ·injection h3 with h3
   exact ⟨x, y, h2, h3, fun u r' hu => den_f2.2 (.inl ⟨x, r', h1, hu, rfl⟩)⟩
  ·obtain ⟨r, hr⟩ := ht _ h2
   cases hr
theorem numEq_is {p : Option Tm} {n : Tm} {k : Nat} (hk : 1 ≤ k) (hk8 : k ≤ 8) : TEqIs (numEq p n k) := fun ν hs d hd => by
 obtain ⟨h1, h2, h3, hr⟩ := hs
 obtain ⟨hr1, hr2⟩ := all_app hr
 obtain ⟨x, c, a1, a2, a3⟩ := so_geq h1
 obtain ⟨x2, c2, b1, b2, b3⟩ := so_leq h2
 obtain ⟨x3, c3, e1, e2, e3⟩ := so_lss h3
 have q1 := den_c a2; have q2 := den_c b2; have q3 := den_c e2
 have q4 := den_one a1 b1; have q5 := den_one a1 e1
 have g1 := tru a3 rfl; have g2 := tru b3 rfl; have g3 := fls e3 rfl
 subst q1 q2 q3 q4 q5
 have gm : x ≤ 18446744073709551615 := g2
 obtain ⟨s, h4⟩ := numT_den a1 (by omega) k hd
 obtain ⟨g4, h5⟩ : denT ν (preT p (BYTES [.c (128 + (k : Int))])) = some (.s s) ∧ d = .s (s ++ beB k x.toNat) := by
  rcases h4 with h4 | ⟨h4, _⟩
  ·exact h4
  ·omega
 subst h5
 have e128 : (128 + (k : Int)) = ((128 + k : Nat) : Int) := by omega
 rw [e128] at g4
 obtain ⟨pre, r, k1, k2, k3⟩ := pre_den g4 fun d hd => ⟨_, den_const hd⟩
 have k4 := Dat.s.inj (den_const k1)
 subst k4 k2
 have hc : cntB x.toNat = k := by
  refine cntB_eq hk hk8 (fun h => ?_) fun h => ?_
  ·rw [if_pos h] at hr1
   obtain ⟨y, z, f1, f2, f3⟩ := so_gtr hr1.1
   obtain ⟨m, c, f4, f5, f6⟩ := den_f6.1 f1
   have w1 := den_one a1 f4; have w2 := den_c f5; have w3 := den_c f2
   rw [← w1, w2] at f6
   rw [w3] at f3
   injection f6 with f6
   rw [shr8 (by omega)] at f6
   have := fls f3 rfl
   have h0 : x.toNat / 256 ^ k = 0 := by
    generalize x.toNat / 256 ^ k = q at f6 ⊢
    omega
   exact (Nat.div_eq_zero_iff_lt (Nat.pow_pos (by omega))).1 h0
  ·rw [if_pos h] at hr2
   obtain ⟨y, z, f1, f2, f3⟩ := so_gtr hr2.1
   obtain ⟨m, c, f4, f5, f6⟩ := den_f6.1 f1
   have w1 := den_one a1 f4; have w2 := den_c f5; have w3 := den_c f2
   rw [← w1, w2] at f6
   rw [w3] at f3
   injection f6 with f6
   have e8 : (8 * ((k : Int) - 1)) = 8 * ((k - 1 : Nat) : Int) := by omega
   rw [e8, shr8 (by omega)] at f6
   have := tru f3 rfl
   have h0 : 0 < x.toNat / 256 ^ (k - 1) := by
    generalize x.toNat / 256 ^ (k - 1) = q at f6 ⊢
    omega
   exact (Nat.div_pos_iff.1 h0).2
 have hn : denT ν (NUM n) = some (.s (UInt8.ofNat (128 + k) :: beB k x.toNat)) := by
  refine den_NUM.2 ⟨x, a1, ?_⟩
  unfold NB
  rw [w64_in (by omega) gm]
  unfold numB
  rw [if_neg (by omega), hc]
 have := k3 _ _ hn
 rw [show pre ++ (UInt8.ofNat (128 + k) :: beB k x.toNat) = pre ++ [UInt8.ofNat (128 + k)] ++ beB k x.toNat by simp] at this
 exact this
theorem numEq0_is {p : Option Tm} {n : Tm} : TEqIs (numEq0 p n) := fun ν hs d hd => by
 obtain ⟨h1, h3, _⟩ := hs
 obtain ⟨x, c, a1, a2, a3⟩ := so_geq h1
 obtain ⟨x3, c3, e1, e2, e3⟩ := so_lss h3
 have q1 := den_c a2; have q3 := den_c e2
 have q5 := den_one a1 e1
 have g1 := tru a3 rfl; have g3 := tru e3 rfl
 subst q1 q3 q5
 have hb : ∀ d, denT ν (BYTES [.conv .u8 n]) = some d → d = .s (NB x) := fun d hd => by
  obtain ⟨y, k1, rfl⟩ := den_byte hd
  have := den_one a1 k1
  subst this
  unfold NB numB
  rw [w64_in (by omega) (by omega), if_pos (by omega)]
  have := u8_ofNat x.toNat
  rw [show ((x.toNat : Nat) : Int) = x by omega] at this
  rw [this]
 have hs : ∃ s, d = .s s := by
  cases p with
  | none => exact ⟨_, hb d hd⟩
  | some p =>
   rcases den_f2.1 hd with ⟨x, y, h1, h2, h3⟩ | ⟨x, y, h1, h2, h3⟩
   ·exact ⟨_, h3⟩
   ·have := hb _ h2; cases this
 obtain ⟨s, rfl⟩ := hs
 obtain ⟨pre, r, k1, k2, k3⟩ := pre_den hd fun d hd => ⟨_, hb d hd⟩
 have := hb _ k1
 injection this with this
 subst this k2
 exact k3 _ _ (den_NUM.2 ⟨x, a1, rfl⟩)
theorem numEqs_ok {p : Option Tm} {n : Tm} : TEqOk (numEqs p n) :=
 teq_cons numEq0_is (teq_cons (numEq_is (by omega) (by omega)) (teq_cons (numEq_is (by omega) (by omega)) (teq_cons (numEq_is (by omega) (by omega)) (teq_cons (numEq_is (by omega) (by omega)) (teq_cons (numEq_is (by omega) (by omega)) (teq_cons (numEq_is (by omega) (by omega)) (teq_cons (numEq_is (by omega) (by omega)) (teq_cons (numEq_is (by omega) (by omega)) teq_nil))))))))
theorem teqNum_ok : TEqOk teqNum := teq_append numEqs_ok numEqs_ok
theorem line_of {r i : Tm} {x : Int} {e : TypeId} {v : Value} {xs : List Dat} (hr : denT ν r = some (.r e v xs)) (hi : denT ν i = some (.n x)) {j : Nat} {k : IntKind} {m : Int} (h : denT ν (.conv k (CELL r i j)) = some (.n m)) : ∃ d c, xs[x.toNat]? = some d ∧ 0 ≤ x ∧ cellI d j = c ∧ m = k.wrap c := by
 obtain ⟨y, h1, h2⟩ := den_convn h
 obtain ⟨e', v', xs', m', n', z, k1, k2, k3, k4, k5, k6, k7⟩ := den_f1.1 h1
 rw [hr] at k1
 simp only [Option.some.injEq, Dat.r.injEq] at k1
 obtain ⟨_, _, rfl⟩ := k1
 have q1 := den_one hi k2
 have q2 := den_c k3
 subst q1 q2
 refine ⟨z, _, k6, k4, rfl, ?_⟩
 rw [h2]
 congr 1
 simp only [Int.toNat_natCast] at k7
 unfold cellD at k7
 unfold cellI
 cases z with
 | l ds => simp only at k7 ⊢; rw [k7]
 | n n =>
  simp only at k7 ⊢
  split at k7
  ·simp only [Option.some.injEq, Dat.n.injEq] at k7; exact k7.symm
  ·cases k7
 | s _ =>
  simp only at k7
  split at k7
  ·cases k7
  ·cases k7
 | v _ =>
  simp only at k7
  split at k7
  ·cases k7
  ·cases k7
 | r _ _ _ =>
  simp only at k7
  split at k7
  ·cases k7
  ·cases k7
theorem lc_of {r i : Tm} {x : Int} {e : TypeId} {v : Value} {xs : List Dat} (hr : denT ν r = some (.r e v xs)) (hi : denT ν i = some (.n x)) {m0 m1 m2 m3 : Int} (h0 : denT ν (lc r i 0) = some (.n m0)) (h1 : denT ν (lc r i 1) = some (.n m1)) (h2 : denT ν (lc r i 2) = some (.n m2)) (h3 : denT ν (lc r i 3) = some (.n m3)) : ∃ d, xs[x.toNat]? = some d ∧ viewL d = [m0, m1, m2, m3] := by
 obtain ⟨d, c0, a1, _, a3, a4⟩ := line_of (j := 0) hr hi h0
 obtain ⟨d1, c1, b1, _, b3, b4⟩ := line_of (j := 1) hr hi h1
 obtain ⟨d2, c2, e1, _, e3, e4⟩ := line_of (j := 2) hr hi h2
 obtain ⟨d3, c3, f1, _, f3, f4⟩ := line_of (j := 3) hr hi h3
 rw [a1] at b1 e1 f1
 injection b1 with b1
 injection e1 with e1
 injection f1 with f1
 subst b1 e1 f1 a3 b3 e3 f3 a4 b4 e4 f4
 exact ⟨d, a1, rfl⟩
theorem catN_den : ∀ {l : List Tm} {t : Tm} {d : Dat}, denT ν (catN t l) = some d → (l = [] ∧ denT ν t = some d) ∨ ∃ (s : List UInt8) (ns : List Int), denT ν t = some (.s s) ∧ denTs ν l = some (ns.map .n) ∧ d = .s (s ++ ns.flatMap NB)
 | [], t, d, h => .inl ⟨rfl, h⟩
 | n :: l, t, d, h => by
  unfold catN at h
  have key : ∀ {d}, denT ν (CAT t (NUM n)) = some d → ∃ s x, denT ν t = some (.s s) ∧ denT ν n = some (.n x) ∧ d = .s (s ++ NB x) := by
   intro d hd
   rcases den_f2.1 hd with ⟨x, y, h1, h2, h3⟩ | ⟨x, y, h1, h2, h3⟩
   ·obtain ⟨z, k1, k2⟩ := den_NUM.1 h2
    injection k2 with k2
    subst k2
    exact ⟨x, z, h1, k1, h3⟩
   ·obtain ⟨z, k1, k2⟩ := den_NUM.1 h2
    cases k2
  rcases catN_den h with ⟨rfl, h1⟩ | ⟨s, ns, h1, h2, h3⟩
  ·obtain ⟨s, x, k1, k2, k3⟩ := key h1
   exact .inr ⟨s, [x], k1, denTs_mk k2 rfl, by simpa using k3⟩
  ·obtain ⟨s', x, k1, k2, k3⟩ := key h1
   injection k3 with k3
   subst k3 h3
   exact .inr ⟨s', x :: ns, k1, denTs_mk k2 h2, by simp⟩
theorem line4_eq (t r i : Tm) : line4 t r i = catN t [u64 (lc r i 0), u64 (lc r i 1), u64 (lc r i 2), u64 (lc r i 3)] := rfl
theorem u64_den {t : Tm} {d : Dat} (h : denT ν (u64 t) = some d) : ∃ x, denT ν t = some (.n x) ∧ d = .n (IntKind.u64.wrap x) := den_conv.1 h
theorem line4_den {t r i : Tm} {d : Dat} {x : Int} {e : TypeId} {v : Value} {xs : List Dat} (hr : denT ν r = some (.r e v xs)) (hi : denT ν i = some (.n x)) (h : denT ν (line4 t r i) = some d) : ∃ s l, denT ν t = some (.s s) ∧ xs[x.toNat]? = some l ∧ d = .s (s ++ lineB l) := by
 rw [line4_eq] at h
 rcases catN_den h with ⟨h, _⟩ | ⟨s, ns, h1, h2, h3⟩
 ·cases h
 ·obtain ⟨d0, r0, a0, b0, e0⟩ := denTs_cons h2
  obtain ⟨d1, r1, a1, b1, e1⟩ := denTs_cons b0
  obtain ⟨d2, r2, a2, b2, e2⟩ := denTs_cons b1
  obtain ⟨d3, r3, a3, b3, e3⟩ := denTs_cons b2
  have b3 := denTs_nil b3
  obtain ⟨m0, k0, rfl⟩ := u64_den a0
  obtain ⟨m1, k1, rfl⟩ := u64_den a1
  obtain ⟨m2, k2, rfl⟩ := u64_den a2
  obtain ⟨m3, k3, rfl⟩ := u64_den a3
  subst b3 e3 e2 e1
  obtain ⟨l, g1, g2⟩ := lc_of hr hi k0 k1 k2 k3
  refine ⟨s, l, h1, g1, ?_⟩
  rw [h3]
  congr 2
  have : ns = [IntKind.u64.wrap m0, IntKind.u64.wrap m1, IntKind.u64.wrap m2, IntKind.u64.wrap m3] := by
   have hm : ns.map Dat.n = [IntKind.u64.wrap m0, IntKind.u64.wrap m1, IntKind.u64.wrap m2, IntKind.u64.wrap m3].map Dat.n := e0
   exact List.map_inj_right (fun x y h => by injection h) |>.1 hm
  subst this
  unfold lineB
  rw [g2]
  simp only [List.flatMap_cons, List.flatMap_nil, NB_wrap]
theorem drop_line {xs : List Dat} {i : Nat} {l : Dat} (h : xs[i]? = some l) : linesB (xs.drop i) = lineB l ++ linesB (xs.drop (i + 1)) := by
 obtain ⟨hi, he⟩ := List.getElem?_eq_some_iff.1 h
 rw [List.drop_eq_getElem_cons hi, he]
 rfl
theorem row_cell {r i : Tm} {m : Int} {k : IntKind} {j : Int} (h : denT ν (.conv k (CELL r i j)) = some (.n m)) : ∃ e v xs, denT ν r = some (.r e v xs) := by
 obtain ⟨y, h1, h2⟩ := den_convn h
 obtain ⟨e', v', xs', m', n', z, k1, _⟩ := den_f1.1 h1
 exact ⟨_, _, _, k1⟩
theorem line4_row {t r i : Tm} {d : Dat} (h : denT ν (line4 t r i) = some d) : ∃ e v xs, denT ν r = some (.r e v xs) := by
 rw [line4_eq] at h
 rcases catN_den h with ⟨h, _⟩ | ⟨s, ns, h1, h2, h3⟩
 ·cases h
 ·obtain ⟨d0, r0, a0, b0, e0⟩ := denTs_cons h2
  obtain ⟨m0, k0, rfl⟩ := u64_den a0
  exact row_cell k0
theorem lenDat_row {e : TypeId} {v : Value} {xs : List Dat} {m : Nat} (h : lenDat (.r e v xs) = some m) : m = xs.length := by
 simp only [lenDat, Option.some.injEq] at h
 exact h.symm
theorem linesEq2_is {t r i : Tm} : TEqIs (linesEq2 t r i) := fun ν hs d hd => by
 obtain ⟨h1, h2, h3, _⟩ := hs
 obtain ⟨dr, l, x, k0, k1, k2, k3, k4, k5⟩ := place_of h3 h2
 have k6 := tru (lt_of h1 k3 k4) rfl
 rcases den_f2.1 hd with ⟨p, q, g1, g2, g3⟩ | ⟨p, q, g1, g2, g3⟩
 ·obtain ⟨e, v, xs, m, e1, e2, e3, e4⟩ := den_LINES.1 g2
  obtain ⟨s, ln, f1, f2, f3⟩ := line4_den e1 k4 g1
  have e5 := add1_den k4 k5 (by omega) e2
  injection f3 with f3
  injection e4 with e4
  subst f3 e4 e5 g3
  refine den_f2.2 (.inl ⟨s, _, f1, den_LINES.2 ⟨e, v, xs, x, e1, k4, ⟨k5, e3.2⟩, rfl⟩, ?_⟩)
  rw [drop_line f2]
  rw [show (x + 1).toNat = x.toNat + 1 by omega]
  simp
 ·obtain ⟨e, v, xs, m, e1, e2, e3, e4⟩ := den_LINES.1 g2
  cases e4
theorem linesEq1_is {t r i : Tm} : TEqIs (linesEq1 t r i) := fun ν hs d hd => by
 obtain ⟨h1, h2, h3, h4, _⟩ := hs
 obtain ⟨dr, l, x, k0, k1, k2, k3, k4, k5⟩ := place_of h3 h2
 have k6 := tru (lt_of h1 k3 k4) rfl
 have k7 := fls (lt_of h4 k3 (add1_mk k4 k5 (by omega))) rfl
 obtain ⟨e, v, xs, e1⟩ := line4_row hd
 rw [k0] at e1
 injection e1 with e1
 subst e1
 have := lenDat_row k1
 subst this
 obtain ⟨s, ln, f1, f2, f3⟩ := line4_den k0 k4 hd
 subst f3
 refine den_f2.2 (.inl ⟨s, _, f1, den_LINES.2 ⟨e, v, xs, x, k0, k4, ⟨k5, k2⟩, rfl⟩, ?_⟩)
 rw [drop_line f2, List.drop_eq_nil_of_le (by omega)]
 simp [linesB]
end
end Go.Proofs.YtcjbpaiomcfgnaaGreatDoor
namespace Go.Proofs.YtcjbpaiomcfgnaaGreatDoor
open Go
section
variable {ν : Nm} {a b i t r : Tm}
theorem n01_den {c b : Bool} (h : denT ν t = some (b01 c)) (k : IsSo ν t b) : b = c := (so_b01 h k).symm
theorem neLen_of (h : IsSo ν (neLen a b).1 (neLen a b).2) : ∃ d d' l, denT ν a = some d ∧ denT ν b = some d' ∧ lenDat d = some l ∧ lenDat d' = some l ∧ denT ν (LEN a) = some (.n l) ∧ denT ν (LEN b) = some (.n l) := by
 obtain ⟨x, y, h1, h2, h3⟩ := so_neq h
 obtain ⟨d, m, k1, k2, k3⟩ := len_row h1
 obtain ⟨d', m', g1, g2, g3⟩ := len_row h2
 subst k3 g3
 have : (m : Int) = m' := by simpa using (show (!decide ((m : Int) = m')) = false from h3)
 have : m = m' := by omega
 subst this
 exact ⟨d, d', m, k1, g1, k2, g2, h1, h2⟩
theorem lemLt_is : LemIs (lemLt a b i) := fun ν hs c hb => by
 obtain ⟨h1, h2, _⟩ := hs
 obtain ⟨d, d', l, k1, k2, k3, k4, k5, k6⟩ := neLen_of h2
 obtain ⟨x, y, e1, e2, e3⟩ := so_lss hb
 have := den_one k6 e2
 subst this
 have := tru (lt_of h1 k5 e1) rfl
 rw [← e3]
 exact decide_eq_true this
theorem isRow_of (h : IsSo ν (isRow a).1 (isRow a).2) : ∃ e v xs, denT ν a = some (.r e v xs) := by
 obtain ⟨x, y, h1, h2, h3⟩ := so_geq h
 obtain ⟨d, m, k1, k2, k3⟩ := len_row h1
 obtain ⟨e, v, xs, g1, g2⟩ := den_f15.1 k1
 exact ⟨e, v, xs, g1⟩
theorem lemP0_is : LemIs (lemP0 a b) := fun ν hs c hb => by
 obtain ⟨h1, h2, _⟩ := hs
 obtain ⟨e, v, xs, k1⟩ := isRow_of h1
 obtain ⟨e', v', ys, k2⟩ := isRow_of h2
 rw [n01_den (den_PREF (i := .c 0) (m := 0) k1 k2 rfl) hb]
 rfl
theorem lemP1_is : LemIs (lemP1 a b i) := fun ν hs c hb => by
 obtain ⟨h1, h2, h3, h4, h5, h6, _⟩ := hs
 obtain ⟨e, v, xs, e', v', ys, m, k1, k2, k3, k4⟩ := PREF_rows h1
 obtain ⟨d, l, x, g0, g1, g2, g3, g4, g5⟩ := place_of h6 h5
 have g6 := tru (lt_of h3 g3 g4) rfl
 have := den_one k3 g4
 subst this
 rw [k1] at g0
 injection g0 with g0
 subst g0
 have := lenDat_row g1
 subst this
 have key := den_PREF (ν := ν) k1 k2 (add1_mk k3 g5 (by omega))
 rw [n01_den key hb]
 refine decide_eq_true ?_
 obtain ⟨p, q, s1, s2, s3⟩ := so_and h2
 obtain ⟨p0, p1, s4, s5, s6⟩ := so_and s1
 obtain ⟨p2, p3, s7, s8, s9⟩ := so_and s2
 have hh : p0 = true ∧ p1 = true ∧ p2 = true ∧ p3 = true := by
  have s3 : (p && q) = true := s3
  revert s3 s6 s9
  cases p0 <;> cases p1 <;> cases p2 <;> cases p3 <;> cases p <;> cases q <;> simp
 obtain ⟨rfl, rfl, rfl, rfl⟩ := hh
 obtain ⟨x0, y0, a1, a2, a3⟩ := so_eql s4
 obtain ⟨x1, y1, b1, b2, b3⟩ := so_eql s5
 obtain ⟨x2, y2, c1, c2, c3⟩ := so_eql s7
 obtain ⟨x3, y3, d1, d2, d3⟩ := so_eql s8
 obtain ⟨u, u1, u2⟩ := lc_of k1 k3 a1 b1 c1 d1
 obtain ⟨w, w1, w2⟩ := lc_of k2 k3 a2 b2 c2 d2
 have t0 := tru a3 rfl; have t1 := tru b3 rfl; have t2 := tru c3 rfl; have t3 := tru d3 rfl
 subst t0 t1 t2 t3
 rw [show (m + 1).toNat = m.toNat + 1 by omega, List.take_add_one, List.take_add_one, u1, w1]
 simp only [Option.toList_some, List.map_append, List.map_cons, List.map_nil, k4, u2, w2]
theorem lemPy_d : LemDIs (lemPy a b i) := fun ν hs => by
 obtain ⟨h1, h2, h3, h4, h5, h6, _⟩ := hs
 obtain ⟨e, v, xs, e', v', ys, m, k1, k2, k3, k4⟩ := PREF_rows h1
 obtain ⟨d, d', l, q1, q2, q3, q4, q5, q6⟩ := neLen_of h4
 have g6 := fls (lt_of h2 q5 k3) rfl
 have g7 := le_of h3 q5 k3
 rw [k1] at q1
 rw [k2] at q2
 injection q1 with q1
 injection q2 with q2
 subst q1 q2
 have e1 := lenDat_row q3
 have e2 := lenDat_row q4
 refine so_b01_mk (den_SAMEL k1 k2) (decide_eq_true ?_)
 have h0 : m.toNat = l := by omega
 rw [h0, List.take_of_length_le (by omega), List.take_of_length_le (by omega)] at k4
 exact k4
theorem EL_no {ν : Nm} {x : Int} {e e' : TypeId} {v v' : Value} {xs ys : List Dat} (k1 : denT ν a = some (.r e v xs)) (k2 : denT ν b = some (.r e' v' ys)) (k3 : denT ν i = some (.n x)) (h : IsSo ν (EL a b i) false) : ∃ u w, xs[x.toNat]? = some u ∧ ys[x.toNat]? = some w ∧ viewL u ≠ viewL w := by
 obtain ⟨p, q, s1, s2, s3⟩ := so_and h
 obtain ⟨p0, p1, s4, s5, s6⟩ := so_and s1
 obtain ⟨p2, p3, s7, s8, s9⟩ := so_and s2
 obtain ⟨x0, y0, a1, a2, a3⟩ := so_eql s4
 obtain ⟨x1, y1, b1, b2, b3⟩ := so_eql s5
 obtain ⟨x2, y2, c1, c2, c3⟩ := so_eql s7
 obtain ⟨x3, y3, d1, d2, d3⟩ := so_eql s8
 obtain ⟨u, u1, u2⟩ := lc_of k1 k3 a1 b1 c1 d1
 obtain ⟨w, w1, w2⟩ := lc_of k2 k3 a2 b2 c2 d2
 refine ⟨u, w, u1, w1, fun he => ?_⟩
 rw [u2, w2] at he
 simp only [List.cons.injEq, and_true] at he
 obtain ⟨rfl, rfl, rfl, rfl⟩ := he
 simp at a3 b3 c3 d3
 subst a3 b3 c3 d3
 simp at s6 s9
 subst s6 s9
 simp at s3
theorem EL_rows {ν : Nm} {c : Bool} (h : IsSo ν (EL a b i) c) : ∃ e v xs e' v' ys, denT ν a = some (.r e v xs) ∧ denT ν b = some (.r e' v' ys) := by
 obtain ⟨p, q, s1, s2, s3⟩ := so_and h
 obtain ⟨p0, p1, s4, s5, s6⟩ := so_and s1
 obtain ⟨x0, y0, a1, a2, a3⟩ := so_eql s4
 obtain ⟨e, v, xs, h1⟩ := row_cell a1
 obtain ⟨e', v', ys, h2⟩ := row_cell a2
 exact ⟨_, _, _, _, _, _, h1, h2⟩
theorem lemPn_d : LemDIs (lemPn a b i) := fun ν hs => by
 obtain ⟨h1, h2, h3, h4, h5, _⟩ := hs
 obtain ⟨e, v, xs, e', v', ys, k1, k2⟩ := EL_rows h1
 obtain ⟨d, l, x, g0, g1, g2, g3, g4, g5⟩ := place_of h5 h4
 obtain ⟨u, w, u1, w1, hne⟩ := EL_no k1 k2 g4 h1
 refine so_b01_mk (den_SAMEL k1 k2) (decide_eq_false fun he => hne ?_)
 have e1 : (xs.map viewL)[x.toNat]? = some (viewL u) := by simp [u1]
 have e2 : (ys.map viewL)[x.toNat]? = some (viewL w) := by simp [w1]
 rw [he, e2] at e1
 injection e1 with e1
 exact e1.symm
end
end Go.Proofs.YtcjbpaiomcfgnaaGreatDoor
namespace Go.Proofs.YtcjbpaiomcfgnaaGreatDoor
open Go
section
variable {ν : Nm} {a b t r i : Tm}
theorem lineB_len (d : Dat) : (lineB d).length ≤ 36 := flatNB_len (viewL d)
theorem lim36_den {c : Bool} {x : Int} (hi : denT ν i = some (.n x)) (h0 : 0 ≤ x) (h1 : x ≤ 1000) (h : IsSo ν (lim36 t i) c) : ∃ d l, denT ν t = some d ∧ lenDat d = some l ∧ decide ((l : Int) ≤ 110000 + 36 * x) = c := by
 obtain ⟨p, q, k1, k2, k3⟩ := so_leq h
 obtain ⟨d, l, g1, g2, g3⟩ := len_row k1
 obtain ⟨u, w, e1, e2, e3⟩ := den_add k2
 obtain ⟨y, z, f1, f2, f3⟩ := den_mul e2
 have q1 := den_c e1; have q2 := den_c f1; have q3 := den_one hi f2
 subst q1 q2 q3
 rw [i64_in (by omega) (by omega)] at f3
 subst f3
 rw [i64_in (by omega) (by omega)] at e3
 subst e3 g3
 exact ⟨d, l, g1, g2, k3⟩
theorem lemS1_is : LemIs (lemS1 t r i) := fun ν hs c hb => by
 obtain ⟨h1, h2, h3, h4, _⟩ := hs
 obtain ⟨dr, l, x, k0, k1, k2, k3, k4, k5⟩ := place_of h4 h2
 have k6 := tru (lt_of h3 k3 k4) rfl
 obtain ⟨d, m, g1, g2, g3⟩ := lim36_den k4 k5 (by omega) h1
 obtain ⟨d', m', f1, f2, f3⟩ := lim36_den (add1_mk k4 k5 (by omega)) (by omega) (by omega) hb
 obtain ⟨e, v, xs, e1⟩ := line4_row f1
 obtain ⟨s, ln, q1, q2, q3⟩ := line4_den e1 k4 f1
 rw [g1] at q1
 injection q1 with q1
 subst q1 q3
 simp only [lenDat, Option.some.injEq] at g2 f2
 have := lineB_len ln
 have g4 := tru g3 rfl
 simp only [List.length_append] at f2
 rw [← f3]
 exact decide_eq_true (by omega)
theorem lemAsk_ok : LemOk lemAsk :=
 lemOk_cons lemLt_is (lemOk_cons lemM1_is (lemOk_cons lemM2_is (lemOk_cons lemM0_is (lemOk_cons lemI_is (lemOk_cons lemP0_is (lemOk_cons lemP1_is (lemOk_cons lemPy_d.is (lemOk_cons lemPn_d.is lemOk_nil))))))))
theorem lemD0_ok : LemD lemD0 := lemD_cons lemPy_d (lemD_cons lemPn_d lemD_nil)
theorem head_den {p : Option Tm} {n : Tm} {l : List Tm} {d : Dat} (h : denT ν (match p with | some t => catN t (n :: l) | none => catN0 (n :: l)) = some d) : (l ≠ [] ∨ p ≠ none → ∃ (pre : List UInt8) (ns : List Int), denTs ν (n :: l) = some (ns.map .n) ∧ d = .s (pre ++ ns.flatMap NB) ∧ ∀ (u : Tm) (q : List UInt8), denT ν u = some (.s q) → denT ν (preT p u) = some (.s (pre ++ q))) := fun hl => by
 cases p with
 | some t =>
  rcases catN_den h with ⟨h, _⟩ | ⟨s, ns, h1, h2, h3⟩
  ·cases h
  ·exact ⟨s, ns, h2, h3, fun u q hu => den_f2.2 (.inl ⟨s, q, h1, hu, rfl⟩)⟩
 | none =>
  rcases catN_den (t := NUM n) h with ⟨rfl, h1⟩ | ⟨s, ns, h1, h2, h3⟩
  ·simp at hl
  ·obtain ⟨x, k1, k2⟩ := den_NUM.1 h1
   injection k2 with k2
   subst k2
   exact ⟨[], x :: ns, denTs_mk k1 h2, by simpa using h3, fun u q hu => hu⟩
theorem u32_den {t : Tm} {d : Dat} (h : denT ν (u32 t) = some d) : ∃ x, denT ν t = some (.n x) ∧ d = .n (IntKind.u32.wrap x) := den_conv.1 h
theorem map_n {ns ms : List Int} (h : ns.map Dat.n = ms.map Dat.n) : ns = ms := List.map_inj_right (fun x y h => by injection h) |>.1 h
theorem actNums_den {b : Nat} {ns : List Int} (h : denTs ν (actNums b) = some (ns.map .n)) : ∃ (n0 n1 n2 n3 n4 n5 n6 n7 n8 n9 n10 n11 n12 n13 n14 n15 n16 n17 n18 n19 : Int) (l : Nat) (d : Dat), denT ν (.x (b + 0)) = some (.n n0) ∧ denT ν (.x (b + 1)) = some (.n n1) ∧ denT ν (.x (b + 2)) = some (.n n2) ∧ denT ν (.x (b + 3)) = some (.n n3) ∧ denT ν (.x (b + 4)) = some (.n n4) ∧ denT ν (.x (b + 5)) = some (.n n5) ∧ denT ν (.x (b + 6)) = some (.n n6) ∧ denT ν (.x (b + 7)) = some (.n n7) ∧ denT ν (.x (b + 8)) = some (.n n8) ∧ denT ν (.x (b + 9)) = some (.n n9) ∧ denT ν (.x (b + 10)) = some (.n n10) ∧ denT ν (.x (b + 11)) = some (.n n11) ∧ denT ν (.x (b + 12)) = some (.n n12) ∧ denT ν (.x (b + 13)) = some (.n n13) ∧ denT ν (.x (b + 14)) = some (.n n14) ∧ denT ν (.x (b + 15)) = some (.n n15) ∧ denT ν (.x (b + 16)) = some (.n n16) ∧ denT ν (.x (b + 17)) = some (.n n17) ∧ denT ν (.x (b + 18)) = some (.n n18) ∧ denT ν (.x (b + 19)) = some (.n n19) ∧ denT ν (.x (b + 20)) = some d ∧ lenDat d = some l ∧ ns.flatMap NB = (preW [n0, n1, n2, n3, n4, n5, n6, n7, n8, n9, n10, n11, n12, n13, n14, n15, n16, n17, n18, n19]).flatMap NB ++ NB (IntKind.u32.wrap l) := by
 obtain ⟨d0, r0, a0, b0, e0⟩ := denTs_cons h
 obtain ⟨d1, r1, a1, b1, e1⟩ := denTs_cons b0
 obtain ⟨d2, r2, a2, b2, e2⟩ := denTs_cons b1
 obtain ⟨d3, r3, a3, b3, e3⟩ := denTs_cons b2
 obtain ⟨d4, r4, a4, b4, e4⟩ := denTs_cons b3
 obtain ⟨d5, r5, a5, b5, e5⟩ := denTs_cons b4
 obtain ⟨d6, r6, a6, b6, e6⟩ := denTs_cons b5
 obtain ⟨d7, r7, a7, b7, e7⟩ := denTs_cons b6
 obtain ⟨d8, r8, a8, b8, e8⟩ := denTs_cons b7
 obtain ⟨d9, r9, a9, b9, e9⟩ := denTs_cons b8
 obtain ⟨d10, r10, a10, b10, e10⟩ := denTs_cons b9
 obtain ⟨d11, r11, a11, b11, e11⟩ := denTs_cons b10
 obtain ⟨d12, r12, a12, b12, e12⟩ := denTs_cons b11
 obtain ⟨d13, r13, a13, b13, e13⟩ := denTs_cons b12
 obtain ⟨d14, r14, a14, b14, e14⟩ := denTs_cons b13
 obtain ⟨d15, r15, a15, b15, e15⟩ := denTs_cons b14
 obtain ⟨d16, r16, a16, b16, e16⟩ := denTs_cons b15
 obtain ⟨d17, r17, a17, b17, e17⟩ := denTs_cons b16
 obtain ⟨d18, r18, a18, b18, e18⟩ := denTs_cons b17
 obtain ⟨d19, r19, a19, b19, e19⟩ := denTs_cons b18
 obtain ⟨d20, r20, a20, b20, e20⟩ := denTs_cons b19
 have b20 := denTs_nil b20
 obtain ⟨n0, k0, rfl⟩ := u64_den a0
 obtain ⟨n1, k1, rfl⟩ := u64_den a1
 obtain ⟨n2, k2, rfl⟩ := u64_den a2
 obtain ⟨m3, c3, rfl⟩ := u64_den a3
 obtain ⟨n3, k3, q3⟩ := u32_den c3
 injection q3 with q3
 obtain ⟨n4, k4, rfl⟩ := u64_den a4
 obtain ⟨n5, k5, rfl⟩ := u64_den a5
 obtain ⟨n6, k6, rfl⟩ := u64_den a6
 obtain ⟨n7, k7, rfl⟩ := u64_den a7
 obtain ⟨n8, k8, rfl⟩ := u64_den a8
 obtain ⟨n9, k9, rfl⟩ := u64_den a9
 obtain ⟨m10, c10, rfl⟩ := u64_den a10
 obtain ⟨n10, k10, q10⟩ := u32_den c10
 injection q10 with q10
 obtain ⟨m11, c11, rfl⟩ := u64_den a11
 obtain ⟨n11, k11, q11⟩ := u32_den c11
 injection q11 with q11
 obtain ⟨n13, k13, rfl⟩ := u64_den a13
 obtain ⟨n14, k14, rfl⟩ := u64_den a14
 obtain ⟨n15, k15, rfl⟩ := u64_den a15
 obtain ⟨n16, k16, rfl⟩ := u64_den a16
 obtain ⟨n17, k17, rfl⟩ := u64_den a17
 obtain ⟨n18, k18, rfl⟩ := u64_den a18
 obtain ⟨n19, k19, rfl⟩ := u64_den a19
 obtain ⟨m20, c20, rfl⟩ := u64_den a20
 obtain ⟨n20, k20, q20⟩ := u32_den c20
 injection q20 with q20
 obtain ⟨d, l, g1, g2, g3⟩ := len_row k20
 subst b20 e20 e19 e18 e17 e16 e15 e14 e13 e12 e11 e10 e9 e8 e7 e6 e5 e4 e3 e2 e1
 subst q3 q10 q11 q20 g3
 obtain ⟨n12, rfl⟩ : ∃ n12, d12 = .n n12 := by
  have := congrArg (fun z : List Dat => z[12]?) e0
  simp only [List.getElem?_map, List.getElem?_cons_succ, List.getElem?_cons_zero] at this
  cases hh : ns[12]? with
  | none => rw [hh] at this; cases this
  | some z => rw [hh] at this; simp only [Option.map_some, Option.some.injEq] at this; exact ⟨z, this.symm⟩
 have e0 : ns = [IntKind.u64.wrap n0, IntKind.u64.wrap n1, IntKind.u64.wrap n2, IntKind.u64.wrap (IntKind.u32.wrap n3), IntKind.u64.wrap n4, IntKind.u64.wrap n5, IntKind.u64.wrap n6, IntKind.u64.wrap n7, IntKind.u64.wrap n8, IntKind.u64.wrap n9, IntKind.u64.wrap (IntKind.u32.wrap n10), IntKind.u64.wrap (IntKind.u32.wrap n11), n12, IntKind.u64.wrap n13, IntKind.u64.wrap n14, IntKind.u64.wrap n15, IntKind.u64.wrap n16, IntKind.u64.wrap n17, IntKind.u64.wrap n18, IntKind.u64.wrap n19, IntKind.u64.wrap (IntKind.u32.wrap l)] := map_n e0
 subst e0
 refine ⟨n0, n1, n2, n3, n4, n5, n6, n7, n8, n9, n10, n11, n12, n13, n14, n15, n16, n17, n18, n19, l, d, k0, k1, k2, k3, k4, k5, k6, k7, k8, k9, k10, k11, a12, k13, k14, k15, k16, k17, k18, k19, g1, g2, ?_⟩
 simp only [preW, List.flatMap_cons, List.flatMap_nil, NB_wrap, List.append_nil, List.append_assoc]
theorem dNums_den {b : Nat} {ns : List Int} (h : denTs ν (dNums b) = some (ns.map .n)) : ∃ n21 n22 : Int, denT ν (.x (b + 21)) = some (.n n21) ∧ denT ν (.x (b + 22)) = some (.n n22) ∧ ns.flatMap NB = [n21, n22].flatMap NB := by
 obtain ⟨d0, r0, a0, b0, e0⟩ := denTs_cons h
 obtain ⟨d1, r1, a1, b1, e1⟩ := denTs_cons b0
 have b1 := denTs_nil b1
 obtain ⟨n21, k0, rfl⟩ := u64_den a0
 obtain ⟨n22, k1, rfl⟩ := u64_den a1
 subst b1 e1
 have e0 : ns = [IntKind.u64.wrap n21, IntKind.u64.wrap n22] := map_n e0
 subst e0
 exact ⟨n21, n22, k0, k1, by simp only [List.flatMap_cons, List.flatMap_nil, NB_wrap]⟩
theorem ACT_mk {b : Nat} {n0 n1 n2 n3 n4 n5 n6 n7 n8 n9 n10 n11 n12 n13 n14 n15 n16 n17 n18 n19 n21 n22 : Int} {e : TypeId} {v : Value} {xs : List Dat} (h0 : denT ν (.x (b + 0)) = some (.n n0)) (h1 : denT ν (.x (b + 1)) = some (.n n1)) (h2 : denT ν (.x (b + 2)) = some (.n n2)) (h3 : denT ν (.x (b + 3)) = some (.n n3)) (h4 : denT ν (.x (b + 4)) = some (.n n4)) (h5 : denT ν (.x (b + 5)) = some (.n n5)) (h6 : denT ν (.x (b + 6)) = some (.n n6)) (h7 : denT ν (.x (b + 7)) = some (.n n7)) (h8 : denT ν (.x (b + 8)) = some (.n n8)) (h9 : denT ν (.x (b + 9)) = some (.n n9)) (h10 : denT ν (.x (b + 10)) = some (.n n10)) (h11 : denT ν (.x (b + 11)) = some (.n n11)) (h12 : denT ν (.x (b + 12)) = some (.n n12)) (h13 : denT ν (.x (b + 13)) = some (.n n13)) (h14 : denT ν (.x (b + 14)) = some (.n n14)) (h15 : denT ν (.x (b + 15)) = some (.n n15)) (h16 : denT ν (.x (b + 16)) = some (.n n16)) (h17 : denT ν (.x (b + 17)) = some (.n n17)) (h18 : denT ν (.x (b + 18)) = some (.n n18)) (h19 : denT ν (.x (b + 19)) = some (.n n19)) (hr : denT ν (.x (b + 20)) = some (.r e v xs)) (h21 : denT ν (.x (b + 21)) = some (.n n21)) (h22 : denT ν (.x (b + 22)) = some (.n n22)) (hx : xs.length ≤ 300) : denT ν (ACT (actT b)) = some (.s (actB [n0, n1, n2, n3, n4, n5, n6, n7, n8, n9, n10, n11, n12, n13, n14, n15, n16, n17, n18, n19] xs [n21, n22])) := by
 refine (den_U (by omega)).2 ⟨_, (denTs_mk h0 (denTs_mk h1 (denTs_mk h2 (denTs_mk h3 (denTs_mk h4 (denTs_mk h5 (denTs_mk h6 (denTs_mk h7 (denTs_mk h8 (denTs_mk h9 (denTs_mk h10 (denTs_mk h11 (denTs_mk h12 (denTs_mk h13 (denTs_mk h14 (denTs_mk h15 (denTs_mk h16 (denTs_mk h17 (denTs_mk h18 (denTs_mk h19 (denTs_mk hr (denTs_mk h21 (denTs_mk h22 rfl))))))))))))))))))))))), ?_⟩
 show flatU (if xs.length ≤ 300 ∧ _ ∧ _ then _ else _) = _
 rw [if_pos ⟨hx, rfl, rfl⟩]
 rfl
theorem putEq_is {p : Option Tm} {b : Nat} {z : Bool} : TEqIs (putEq p b z) := fun ν hs d hd => by
 obtain ⟨h1, h2, h3, _⟩ := hs
 have key : ∃ pre ns : List UInt8, ∃ ms ls : List Int, denTs ν (actNums b) = some (ms.map .n) ∧ denTs ν (dNums b) = some (ls.map .n) ∧ (∀ (u : Tm) (q : List UInt8), denT ν u = some (.s q) → denT ν (preT p u) = some (.s (pre ++ q))) ∧ d = .s (pre ++ ms.flatMap NB ++ ns ++ ls.flatMap NB) ∧ (z = true → denT ν (LINES (.x (b + 20)) (.c 0)) = some (.s ns)) ∧ (z = false → ns = []) := by
  have hd : denT ν (putOut p b z) = some d := hd
  unfold putOut at hd
  rcases catN_den hd with ⟨h, _⟩ | ⟨s, ls, g1, g2, g3⟩
  ·cases h
  ·cases z with
   | true =>
    rcases den_f2.1 g1 with ⟨x, y, f1, f2, f3⟩ | ⟨x, y, f1, f2, f3⟩
    ·obtain ⟨pre, ms, e1, e2, e3⟩ := head_den f1 (.inl (by simp))
     injection e2 with e2
     injection f3 with f3
     subst e2 f3
     exact ⟨pre, y, ms, ls, e1, g2, e3, g3, fun _ => f2, fun h => by cases h⟩
    ·cases f3
   | false =>
    obtain ⟨pre, ms, e1, e2, e3⟩ := head_den g1 (.inl (by simp))
    injection e2 with e2
    subst e2
    exact ⟨pre, [], ms, ls, e1, g2, e3, by simpa using g3, fun h => (by cases h), fun _ => rfl⟩
 obtain ⟨pre, ns, ms, ls, k1, k2, k3, k4, k5, k6⟩ := key
 obtain ⟨n0, n1, n2, n3, n4, n5, n6, n7, n8, n9, n10, n11, n12, n13, n14, n15, n16, n17, n18, n19, l, dr, w0, w1, w2, w3, w4, w5, w6, w7, w8, w9, w10, w11, w12, w13, w14, w15, w16, w17, w18, w19, hr, hl, hm⟩ := actNums_den k1
 obtain ⟨n21, n22, w21, w22, hn⟩ := dNums_den k2
 obtain ⟨l2, c2, q1, q2, q3⟩ := so_leq h2
 obtain ⟨dr', m', g1, g2, g3⟩ := len_row q1
 rw [hr] at g1
 injection g1 with g1
 subst g1
 rw [hl] at g2
 injection g2 with g2
 subst g2 g3
 have q4 := den_c q2
 subst q4
 have q5 := tru q3 rfl
 have h1' := lt_of h1 q1 (i := .c 0) rfl
 obtain ⟨e, v, xs, hx⟩ := isRow_of h3
 rw [hr] at hx
 injection hx with hx
 subst hx
 have hl := lenDat_row hl
 subst hl
 have hns : ns = linesB xs := by
  cases z with
  | true =>
   obtain ⟨e', v', xs', m, f1, f2, f3, f4⟩ := den_LINES.1 (k5 rfl)
   rw [hr] at f1
   simp only [Option.some.injEq, Dat.r.injEq] at f1
   obtain ⟨_, _, rfl⟩ := f1
   have := den_c f2
   subst this
   injection f4
  | false =>
   have h0 := fls h1' rfl
   have : xs = [] := List.eq_nil_of_length_eq_zero (by omega)
   rw [k6 rfl, this]
   rfl
 have := k3 _ _ (ACT_mk w0 w1 w2 w3 w4 w5 w6 w7 w8 w9 w10 w11 w12 w13 w14 w15 w16 w17 w18 w19 hr w21 w22 (by omega))
 rw [k4, hns, hm, hn]
 show denT ν (preT p (ACT (actT b))) = _
 rw [this]
 simp only [actB, List.append_assoc]
end
end Go.Proofs.YtcjbpaiomcfgnaaGreatDoor
namespace Go.Proofs.YtcjbpaiomcfgnaaGreatDoor
open Go
section
variable {ν : Nm}
theorem neP_some {a b : Nat} {j : Nat} {k : IntKind} {c : Bool} {n m : Int} (h : IsSo ν (neP a b (j, some k)) c) (hn : denT ν (.x (a + j)) = some (.n n)) (hm : denT ν (.x (b + j)) = some (.n m)) : (!decide (n = m)) = c := by
 obtain ⟨x, y, h1, h2, h3⟩ := so_neq (show IsSo ν (.bin .neq k (.x (a + j)) (.x (b + j))) c from h)
 rw [den_one hn h1, den_one hm h2]
 exact h3
theorem neP_none {a b : Nat} {j : Nat} {c : Bool} {n m n' m' : Int} (h : IsSo ν (neP a b (j, none)) c) (hn : denT ν (.x (a + j)) = some (.n n)) (hm : denT ν (.x (b + j)) = some (.n m)) (hn' : denT ν (.x (a + j + 1)) = some (.n n')) (hm' : denT ν (.x (b + j + 1)) = some (.n m')) : (decide (n = m) && decide (n' = m')) = !c := by
 obtain ⟨p, q, h1, h2, h3⟩ := so_and (so_not (show IsSo ν (.f 10 [eqD (a + j) (b + j)]) c from h))
 obtain ⟨x, y, k1, k2, k3⟩ := so_eql h1
 obtain ⟨z, w, g1, g2, g3⟩ := so_eql h2
 rw [den_one hn k1, den_one hm k2, den_one hn' g1, den_one hm' g2, k3, g3]
 exact h3
theorem eqB_of {b c : Bool} {t : Tm} (h : denT ν t = some (b01 b)) (hb : b = c) : denT ν t = some (b01 c) := by rw [h, hb]
theorem c_b01 (c : Bool) {d : Dat} (h : denT ν (.c (if c = true then 1 else 0)) = some d) : d = b01 c := by
 simp only [denT, Option.some.injEq] at h
 rw [← h]
 rfl
theorem req_of {b : Nat} (h : AllSo ν (reqDef b)) : ∃ (n3 n4 n5 n6 n7 n8 n9 n10 n11 n12 n13 n14 n15 n16 n17 n18 n19 : Int) (e : TypeId) (v : Value) (xs : List Dat), denT ν (.x (b + 3)) = some (.n n3) ∧ denT ν (.x (b + 4)) = some (.n n4) ∧ denT ν (.x (b + 5)) = some (.n n5) ∧ denT ν (.x (b + 6)) = some (.n n6) ∧ denT ν (.x (b + 7)) = some (.n n7) ∧ denT ν (.x (b + 8)) = some (.n n8) ∧ denT ν (.x (b + 9)) = some (.n n9) ∧ denT ν (.x (b + 10)) = some (.n n10) ∧ denT ν (.x (b + 11)) = some (.n n11) ∧ denT ν (.x (b + 12)) = some (.n n12) ∧ denT ν (.x (b + 13)) = some (.n n13) ∧ denT ν (.x (b + 14)) = some (.n n14) ∧ denT ν (.x (b + 15)) = some (.n n15) ∧ denT ν (.x (b + 16)) = some (.n n16) ∧ denT ν (.x (b + 17)) = some (.n n17) ∧ denT ν (.x (b + 18)) = some (.n n18) ∧ denT ν (.x (b + 19)) = some (.n n19) ∧ denT ν (.x (b + 20)) = some (.r e v xs) := by
 obtain ⟨hr, h3, h4, h5, h6, h7, h8, h9, h10, h11, h12, h13, h14, h15, h16, h17, h18, h19, _⟩ := h
 obtain ⟨e, v, xs, hx⟩ := isRow_of hr
 obtain ⟨n3, _, k3, _⟩ := so_geq h3
 obtain ⟨n4, _, k4, _⟩ := so_geq h4
 obtain ⟨n5, _, k5, _⟩ := so_geq h5
 obtain ⟨n6, _, k6, _⟩ := so_geq h6
 obtain ⟨n7, _, k7, _⟩ := so_geq h7
 obtain ⟨n8, _, k8, _⟩ := so_geq h8
 obtain ⟨n9, _, k9, _⟩ := so_geq h9
 obtain ⟨n10, _, k10, _⟩ := so_geq h10
 obtain ⟨n11, _, k11, _⟩ := so_geq h11
 obtain ⟨n12, _, k12, _⟩ := so_geq h12
 obtain ⟨n13, _, k13, _⟩ := so_geq h13
 obtain ⟨n14, _, k14, _⟩ := so_geq h14
 obtain ⟨n15, _, k15, _⟩ := so_geq h15
 obtain ⟨n16, _, k16, _⟩ := so_geq h16
 obtain ⟨n17, _, k17, _⟩ := so_geq h17
 obtain ⟨n18, _, k18, _⟩ := so_geq h18
 obtain ⟨n19, _, k19, _⟩ := so_geq h19
 exact ⟨n3, n4, n5, n6, n7, n8, n9, n10, n11, n12, n13, n14, n15, n16, n17, n18, n19, e, v, xs, k3, k4, k5, k6, k7, k8, k9, k10, k11, k12, k13, k14, k15, k16, k17, k18, k19, hx⟩
theorem SAMEQ_den {a b : Nat} {n3 m3 n4 m4 n5 m5 n6 m6 n7 m7 n8 m8 n9 m9 n10 m10 n11 m11 n12 m12 n13 m13 n14 m14 n15 m15 n16 m16 n17 m17 n18 m18 n19 m19 : Int} {en em : TypeId} {vn vm : Value} {xs ys : List Dat} (hn3 : denT ν (.x (a + 3)) = some (.n n3)) (hn4 : denT ν (.x (a + 4)) = some (.n n4)) (hn5 : denT ν (.x (a + 5)) = some (.n n5)) (hn6 : denT ν (.x (a + 6)) = some (.n n6)) (hn7 : denT ν (.x (a + 7)) = some (.n n7)) (hn8 : denT ν (.x (a + 8)) = some (.n n8)) (hn9 : denT ν (.x (a + 9)) = some (.n n9)) (hn10 : denT ν (.x (a + 10)) = some (.n n10)) (hn11 : denT ν (.x (a + 11)) = some (.n n11)) (hn12 : denT ν (.x (a + 12)) = some (.n n12)) (hn13 : denT ν (.x (a + 13)) = some (.n n13)) (hn14 : denT ν (.x (a + 14)) = some (.n n14)) (hn15 : denT ν (.x (a + 15)) = some (.n n15)) (hn16 : denT ν (.x (a + 16)) = some (.n n16)) (hn17 : denT ν (.x (a + 17)) = some (.n n17)) (hn18 : denT ν (.x (a + 18)) = some (.n n18)) (hn19 : denT ν (.x (a + 19)) = some (.n n19)) (hn20 : denT ν (.x (a + 20)) = some (.r en vn xs)) (hm3 : denT ν (.x (b + 3)) = some (.n m3)) (hm4 : denT ν (.x (b + 4)) = some (.n m4)) (hm5 : denT ν (.x (b + 5)) = some (.n m5)) (hm6 : denT ν (.x (b + 6)) = some (.n m6)) (hm7 : denT ν (.x (b + 7)) = some (.n m7)) (hm8 : denT ν (.x (b + 8)) = some (.n m8)) (hm9 : denT ν (.x (b + 9)) = some (.n m9)) (hm10 : denT ν (.x (b + 10)) = some (.n m10)) (hm11 : denT ν (.x (b + 11)) = some (.n m11)) (hm12 : denT ν (.x (b + 12)) = some (.n m12)) (hm13 : denT ν (.x (b + 13)) = some (.n m13)) (hm14 : denT ν (.x (b + 14)) = some (.n m14)) (hm15 : denT ν (.x (b + 15)) = some (.n m15)) (hm16 : denT ν (.x (b + 16)) = some (.n m16)) (hm17 : denT ν (.x (b + 17)) = some (.n m17)) (hm18 : denT ν (.x (b + 18)) = some (.n m18)) (hm19 : denT ν (.x (b + 19)) = some (.n m19)) (hm20 : denT ν (.x (b + 20)) = some (.r em vm ys)) : denT ν (SAMEQ (reqT a ++ reqT b)) = some (b01 (decide ([n3, n4, n5, n6, n7, n8, n9, n10, n11, n12, n13, n14, n15, n16, n17, n18, n19] = [m3, m4, m5, m6, m7, m8, m9, m10, m11, m12, m13, m14, m15, m16, m17, m18, m19]) && decide (xs.map viewL = ys.map viewL) && decide (([] : List Int) = []))) :=
 (den_U (by omega)).2 ⟨_, (denTs_mk hn3 (denTs_mk hn4 (denTs_mk hn5 (denTs_mk hn6 (denTs_mk hn7 (denTs_mk hn8 (denTs_mk hn9 (denTs_mk hn10 (denTs_mk hn11 (denTs_mk hn12 (denTs_mk hn13 (denTs_mk hn14 (denTs_mk hn15 (denTs_mk hn16 (denTs_mk hn17 (denTs_mk hn18 (denTs_mk hn19 (denTs_mk hn20 (denTs_mk hm3 (denTs_mk hm4 (denTs_mk hm5 (denTs_mk hm6 (denTs_mk hm7 (denTs_mk hm8 (denTs_mk hm9 (denTs_mk hm10 (denTs_mk hm11 (denTs_mk hm12 (denTs_mk hm13 (denTs_mk hm14 (denTs_mk hm15 (denTs_mk hm16 (denTs_mk hm17 (denTs_mk hm18 (denTs_mk hm19 (denTs_mk hm20 rfl)))))))))))))))))))))))))))))))))))), rfl⟩
theorem askNo3 {a b : Nat} : TEqIs ⟨(neP a b (3, some .u8), true) :: (reqDef a ++ reqDef b), SAMEQ (reqT a ++ reqT b), .c 0⟩ := fun ν hs d hd => by
 obtain ⟨h1, hd2⟩ := hs
 obtain ⟨ha, hb⟩ := all_app hd2
 obtain ⟨n3, n4, n5, n6, n7, n8, n9, n10, n11, n12, n13, n14, n15, n16, n17, n18, n19, en, vn, xs, hn3, hn4, hn5, hn6, hn7, hn8, hn9, hn10, hn11, hn12, hn13, hn14, hn15, hn16, hn17, hn18, hn19, hn20⟩ := req_of ha
 obtain ⟨m3, m4, m5, m6, m7, m8, m9, m10, m11, m12, m13, m14, m15, m16, m17, m18, m19, em, vm, ys, hm3, hm4, hm5, hm6, hm7, hm8, hm9, hm10, hm11, hm12, hm13, hm14, hm15, hm16, hm17, hm18, hm19, hm20⟩ := req_of hb
 have key := SAMEQ_den hn3 hn4 hn5 hn6 hn7 hn8 hn9 hn10 hn11 hn12 hn13 hn14 hn15 hn16 hn17 hn18 hn19 hn20 hm3 hm4 hm5 hm6 hm7 hm8 hm9 hm10 hm11 hm12 hm13 hm14 hm15 hm16 hm17 hm18 hm19 hm20
 rw [c_b01 false hd]
 refine eqB_of key ?_
 have := neP_some h1 hn3 hm3
 rw [Bool.eq_false_iff]
 intro hh
 simp only [Bool.and_eq_true, decide_eq_true_eq, List.cons.injEq, and_true] at hh
 simp [hh] at this
theorem askNo4 {a b : Nat} : TEqIs ⟨(neP a b (4, some .u32), true) :: (reqDef a ++ reqDef b), SAMEQ (reqT a ++ reqT b), .c 0⟩ := fun ν hs d hd => by
 obtain ⟨h1, hd2⟩ := hs
 obtain ⟨ha, hb⟩ := all_app hd2
 obtain ⟨n3, n4, n5, n6, n7, n8, n9, n10, n11, n12, n13, n14, n15, n16, n17, n18, n19, en, vn, xs, hn3, hn4, hn5, hn6, hn7, hn8, hn9, hn10, hn11, hn12, hn13, hn14, hn15, hn16, hn17, hn18, hn19, hn20⟩ := req_of ha
 obtain ⟨m3, m4, m5, m6, m7, m8, m9, m10, m11, m12, m13, m14, m15, m16, m17, m18, m19, em, vm, ys, hm3, hm4, hm5, hm6, hm7, hm8, hm9, hm10, hm11, hm12, hm13, hm14, hm15, hm16, hm17, hm18, hm19, hm20⟩ := req_of hb
 have key := SAMEQ_den hn3 hn4 hn5 hn6 hn7 hn8 hn9 hn10 hn11 hn12 hn13 hn14 hn15 hn16 hn17 hn18 hn19 hn20 hm3 hm4 hm5 hm6 hm7 hm8 hm9 hm10 hm11 hm12 hm13 hm14 hm15 hm16 hm17 hm18 hm19 hm20
 rw [c_b01 false hd]
 refine eqB_of key ?_
 have := neP_some h1 hn4 hm4
 rw [Bool.eq_false_iff]
 intro hh
 simp only [Bool.and_eq_true, decide_eq_true_eq, List.cons.injEq, and_true] at hh
 simp [hh] at this
theorem askNo5 {a b : Nat} : TEqIs ⟨(neP a b (5, none), true) :: (reqDef a ++ reqDef b), SAMEQ (reqT a ++ reqT b), .c 0⟩ := fun ν hs d hd => by
 obtain ⟨h1, hd2⟩ := hs
 obtain ⟨ha, hb⟩ := all_app hd2
 obtain ⟨n3, n4, n5, n6, n7, n8, n9, n10, n11, n12, n13, n14, n15, n16, n17, n18, n19, en, vn, xs, hn3, hn4, hn5, hn6, hn7, hn8, hn9, hn10, hn11, hn12, hn13, hn14, hn15, hn16, hn17, hn18, hn19, hn20⟩ := req_of ha
 obtain ⟨m3, m4, m5, m6, m7, m8, m9, m10, m11, m12, m13, m14, m15, m16, m17, m18, m19, em, vm, ys, hm3, hm4, hm5, hm6, hm7, hm8, hm9, hm10, hm11, hm12, hm13, hm14, hm15, hm16, hm17, hm18, hm19, hm20⟩ := req_of hb
 have key := SAMEQ_den hn3 hn4 hn5 hn6 hn7 hn8 hn9 hn10 hn11 hn12 hn13 hn14 hn15 hn16 hn17 hn18 hn19 hn20 hm3 hm4 hm5 hm6 hm7 hm8 hm9 hm10 hm11 hm12 hm13 hm14 hm15 hm16 hm17 hm18 hm19 hm20
 rw [c_b01 false hd]
 refine eqB_of key ?_
 have := neP_none h1 hn5 hm5 hn6 hm6
 rw [Bool.eq_false_iff]
 intro hh
 simp only [Bool.and_eq_true, decide_eq_true_eq, List.cons.injEq, and_true] at hh
 simp [hh] at this
theorem askNo7 {a b : Nat} : TEqIs ⟨(neP a b (7, none), true) :: (reqDef a ++ reqDef b), SAMEQ (reqT a ++ reqT b), .c 0⟩ := fun ν hs d hd => by
 obtain ⟨h1, hd2⟩ := hs
 obtain ⟨ha, hb⟩ := all_app hd2
 obtain ⟨n3, n4, n5, n6, n7, n8, n9, n10, n11, n12, n13, n14, n15, n16, n17, n18, n19, en, vn, xs, hn3, hn4, hn5, hn6, hn7, hn8, hn9, hn10, hn11, hn12, hn13, hn14, hn15, hn16, hn17, hn18, hn19, hn20⟩ := req_of ha
 obtain ⟨m3, m4, m5, m6, m7, m8, m9, m10, m11, m12, m13, m14, m15, m16, m17, m18, m19, em, vm, ys, hm3, hm4, hm5, hm6, hm7, hm8, hm9, hm10, hm11, hm12, hm13, hm14, hm15, hm16, hm17, hm18, hm19, hm20⟩ := req_of hb
 have key := SAMEQ_den hn3 hn4 hn5 hn6 hn7 hn8 hn9 hn10 hn11 hn12 hn13 hn14 hn15 hn16 hn17 hn18 hn19 hn20 hm3 hm4 hm5 hm6 hm7 hm8 hm9 hm10 hm11 hm12 hm13 hm14 hm15 hm16 hm17 hm18 hm19 hm20
 rw [c_b01 false hd]
 refine eqB_of key ?_
 have := neP_none h1 hn7 hm7 hn8 hm8
 rw [Bool.eq_false_iff]
 intro hh
 simp only [Bool.and_eq_true, decide_eq_true_eq, List.cons.injEq, and_true] at hh
 simp [hh] at this
theorem askNo9 {a b : Nat} : TEqIs ⟨(neP a b (9, some .u32), true) :: (reqDef a ++ reqDef b), SAMEQ (reqT a ++ reqT b), .c 0⟩ := fun ν hs d hd => by
 obtain ⟨h1, hd2⟩ := hs
 obtain ⟨ha, hb⟩ := all_app hd2
 obtain ⟨n3, n4, n5, n6, n7, n8, n9, n10, n11, n12, n13, n14, n15, n16, n17, n18, n19, en, vn, xs, hn3, hn4, hn5, hn6, hn7, hn8, hn9, hn10, hn11, hn12, hn13, hn14, hn15, hn16, hn17, hn18, hn19, hn20⟩ := req_of ha
 obtain ⟨m3, m4, m5, m6, m7, m8, m9, m10, m11, m12, m13, m14, m15, m16, m17, m18, m19, em, vm, ys, hm3, hm4, hm5, hm6, hm7, hm8, hm9, hm10, hm11, hm12, hm13, hm14, hm15, hm16, hm17, hm18, hm19, hm20⟩ := req_of hb
 have key := SAMEQ_den hn3 hn4 hn5 hn6 hn7 hn8 hn9 hn10 hn11 hn12 hn13 hn14 hn15 hn16 hn17 hn18 hn19 hn20 hm3 hm4 hm5 hm6 hm7 hm8 hm9 hm10 hm11 hm12 hm13 hm14 hm15 hm16 hm17 hm18 hm19 hm20
 rw [c_b01 false hd]
 refine eqB_of key ?_
 have := neP_some h1 hn9 hm9
 rw [Bool.eq_false_iff]
 intro hh
 simp only [Bool.and_eq_true, decide_eq_true_eq, List.cons.injEq, and_true] at hh
 simp [hh] at this
theorem askNo10 {a b : Nat} : TEqIs ⟨(neP a b (10, some .u8), true) :: (reqDef a ++ reqDef b), SAMEQ (reqT a ++ reqT b), .c 0⟩ := fun ν hs d hd => by
 obtain ⟨h1, hd2⟩ := hs
 obtain ⟨ha, hb⟩ := all_app hd2
 obtain ⟨n3, n4, n5, n6, n7, n8, n9, n10, n11, n12, n13, n14, n15, n16, n17, n18, n19, en, vn, xs, hn3, hn4, hn5, hn6, hn7, hn8, hn9, hn10, hn11, hn12, hn13, hn14, hn15, hn16, hn17, hn18, hn19, hn20⟩ := req_of ha
 obtain ⟨m3, m4, m5, m6, m7, m8, m9, m10, m11, m12, m13, m14, m15, m16, m17, m18, m19, em, vm, ys, hm3, hm4, hm5, hm6, hm7, hm8, hm9, hm10, hm11, hm12, hm13, hm14, hm15, hm16, hm17, hm18, hm19, hm20⟩ := req_of hb
 have key := SAMEQ_den hn3 hn4 hn5 hn6 hn7 hn8 hn9 hn10 hn11 hn12 hn13 hn14 hn15 hn16 hn17 hn18 hn19 hn20 hm3 hm4 hm5 hm6 hm7 hm8 hm9 hm10 hm11 hm12 hm13 hm14 hm15 hm16 hm17 hm18 hm19 hm20
 rw [c_b01 false hd]
 refine eqB_of key ?_
 have := neP_some h1 hn10 hm10
 rw [Bool.eq_false_iff]
 intro hh
 simp only [Bool.and_eq_true, decide_eq_true_eq, List.cons.injEq, and_true] at hh
 simp [hh] at this
theorem askNo11 {a b : Nat} : TEqIs ⟨(neP a b (11, some .u8), true) :: (reqDef a ++ reqDef b), SAMEQ (reqT a ++ reqT b), .c 0⟩ := fun ν hs d hd => by
 obtain ⟨h1, hd2⟩ := hs
 obtain ⟨ha, hb⟩ := all_app hd2
 obtain ⟨n3, n4, n5, n6, n7, n8, n9, n10, n11, n12, n13, n14, n15, n16, n17, n18, n19, en, vn, xs, hn3, hn4, hn5, hn6, hn7, hn8, hn9, hn10, hn11, hn12, hn13, hn14, hn15, hn16, hn17, hn18, hn19, hn20⟩ := req_of ha
 obtain ⟨m3, m4, m5, m6, m7, m8, m9, m10, m11, m12, m13, m14, m15, m16, m17, m18, m19, em, vm, ys, hm3, hm4, hm5, hm6, hm7, hm8, hm9, hm10, hm11, hm12, hm13, hm14, hm15, hm16, hm17, hm18, hm19, hm20⟩ := req_of hb
 have key := SAMEQ_den hn3 hn4 hn5 hn6 hn7 hn8 hn9 hn10 hn11 hn12 hn13 hn14 hn15 hn16 hn17 hn18 hn19 hn20 hm3 hm4 hm5 hm6 hm7 hm8 hm9 hm10 hm11 hm12 hm13 hm14 hm15 hm16 hm17 hm18 hm19 hm20
 rw [c_b01 false hd]
 refine eqB_of key ?_
 have := neP_some h1 hn11 hm11
 rw [Bool.eq_false_iff]
 intro hh
 simp only [Bool.and_eq_true, decide_eq_true_eq, List.cons.injEq, and_true] at hh
 simp [hh] at this
theorem askNo12 {a b : Nat} : TEqIs ⟨(neP a b (12, some .u64), true) :: (reqDef a ++ reqDef b), SAMEQ (reqT a ++ reqT b), .c 0⟩ := fun ν hs d hd => by
 obtain ⟨h1, hd2⟩ := hs
 obtain ⟨ha, hb⟩ := all_app hd2
 obtain ⟨n3, n4, n5, n6, n7, n8, n9, n10, n11, n12, n13, n14, n15, n16, n17, n18, n19, en, vn, xs, hn3, hn4, hn5, hn6, hn7, hn8, hn9, hn10, hn11, hn12, hn13, hn14, hn15, hn16, hn17, hn18, hn19, hn20⟩ := req_of ha
 obtain ⟨m3, m4, m5, m6, m7, m8, m9, m10, m11, m12, m13, m14, m15, m16, m17, m18, m19, em, vm, ys, hm3, hm4, hm5, hm6, hm7, hm8, hm9, hm10, hm11, hm12, hm13, hm14, hm15, hm16, hm17, hm18, hm19, hm20⟩ := req_of hb
 have key := SAMEQ_den hn3 hn4 hn5 hn6 hn7 hn8 hn9 hn10 hn11 hn12 hn13 hn14 hn15 hn16 hn17 hn18 hn19 hn20 hm3 hm4 hm5 hm6 hm7 hm8 hm9 hm10 hm11 hm12 hm13 hm14 hm15 hm16 hm17 hm18 hm19 hm20
 rw [c_b01 false hd]
 refine eqB_of key ?_
 have := neP_some h1 hn12 hm12
 rw [Bool.eq_false_iff]
 intro hh
 simp only [Bool.and_eq_true, decide_eq_true_eq, List.cons.injEq, and_true] at hh
 simp [hh] at this
theorem askNo13 {a b : Nat} : TEqIs ⟨(neP a b (13, none), true) :: (reqDef a ++ reqDef b), SAMEQ (reqT a ++ reqT b), .c 0⟩ := fun ν hs d hd => by
 obtain ⟨h1, hd2⟩ := hs
 obtain ⟨ha, hb⟩ := all_app hd2
 obtain ⟨n3, n4, n5, n6, n7, n8, n9, n10, n11, n12, n13, n14, n15, n16, n17, n18, n19, en, vn, xs, hn3, hn4, hn5, hn6, hn7, hn8, hn9, hn10, hn11, hn12, hn13, hn14, hn15, hn16, hn17, hn18, hn19, hn20⟩ := req_of ha
 obtain ⟨m3, m4, m5, m6, m7, m8, m9, m10, m11, m12, m13, m14, m15, m16, m17, m18, m19, em, vm, ys, hm3, hm4, hm5, hm6, hm7, hm8, hm9, hm10, hm11, hm12, hm13, hm14, hm15, hm16, hm17, hm18, hm19, hm20⟩ := req_of hb
 have key := SAMEQ_den hn3 hn4 hn5 hn6 hn7 hn8 hn9 hn10 hn11 hn12 hn13 hn14 hn15 hn16 hn17 hn18 hn19 hn20 hm3 hm4 hm5 hm6 hm7 hm8 hm9 hm10 hm11 hm12 hm13 hm14 hm15 hm16 hm17 hm18 hm19 hm20
 rw [c_b01 false hd]
 refine eqB_of key ?_
 have := neP_none h1 hn13 hm13 hn14 hm14
 rw [Bool.eq_false_iff]
 intro hh
 simp only [Bool.and_eq_true, decide_eq_true_eq, List.cons.injEq, and_true] at hh
 simp [hh] at this
theorem askNo15 {a b : Nat} : TEqIs ⟨(neP a b (15, none), true) :: (reqDef a ++ reqDef b), SAMEQ (reqT a ++ reqT b), .c 0⟩ := fun ν hs d hd => by
 obtain ⟨h1, hd2⟩ := hs
 obtain ⟨ha, hb⟩ := all_app hd2
 obtain ⟨n3, n4, n5, n6, n7, n8, n9, n10, n11, n12, n13, n14, n15, n16, n17, n18, n19, en, vn, xs, hn3, hn4, hn5, hn6, hn7, hn8, hn9, hn10, hn11, hn12, hn13, hn14, hn15, hn16, hn17, hn18, hn19, hn20⟩ := req_of ha
 obtain ⟨m3, m4, m5, m6, m7, m8, m9, m10, m11, m12, m13, m14, m15, m16, m17, m18, m19, em, vm, ys, hm3, hm4, hm5, hm6, hm7, hm8, hm9, hm10, hm11, hm12, hm13, hm14, hm15, hm16, hm17, hm18, hm19, hm20⟩ := req_of hb
 have key := SAMEQ_den hn3 hn4 hn5 hn6 hn7 hn8 hn9 hn10 hn11 hn12 hn13 hn14 hn15 hn16 hn17 hn18 hn19 hn20 hm3 hm4 hm5 hm6 hm7 hm8 hm9 hm10 hm11 hm12 hm13 hm14 hm15 hm16 hm17 hm18 hm19 hm20
 rw [c_b01 false hd]
 refine eqB_of key ?_
 have := neP_none h1 hn15 hm15 hn16 hm16
 rw [Bool.eq_false_iff]
 intro hh
 simp only [Bool.and_eq_true, decide_eq_true_eq, List.cons.injEq, and_true] at hh
 simp [hh] at this
theorem askNo17 {a b : Nat} : TEqIs ⟨(neP a b (17, some .u32), true) :: (reqDef a ++ reqDef b), SAMEQ (reqT a ++ reqT b), .c 0⟩ := fun ν hs d hd => by
 obtain ⟨h1, hd2⟩ := hs
 obtain ⟨ha, hb⟩ := all_app hd2
 obtain ⟨n3, n4, n5, n6, n7, n8, n9, n10, n11, n12, n13, n14, n15, n16, n17, n18, n19, en, vn, xs, hn3, hn4, hn5, hn6, hn7, hn8, hn9, hn10, hn11, hn12, hn13, hn14, hn15, hn16, hn17, hn18, hn19, hn20⟩ := req_of ha
 obtain ⟨m3, m4, m5, m6, m7, m8, m9, m10, m11, m12, m13, m14, m15, m16, m17, m18, m19, em, vm, ys, hm3, hm4, hm5, hm6, hm7, hm8, hm9, hm10, hm11, hm12, hm13, hm14, hm15, hm16, hm17, hm18, hm19, hm20⟩ := req_of hb
 have key := SAMEQ_den hn3 hn4 hn5 hn6 hn7 hn8 hn9 hn10 hn11 hn12 hn13 hn14 hn15 hn16 hn17 hn18 hn19 hn20 hm3 hm4 hm5 hm6 hm7 hm8 hm9 hm10 hm11 hm12 hm13 hm14 hm15 hm16 hm17 hm18 hm19 hm20
 rw [c_b01 false hd]
 refine eqB_of key ?_
 have := neP_some h1 hn17 hm17
 rw [Bool.eq_false_iff]
 intro hh
 simp only [Bool.and_eq_true, decide_eq_true_eq, List.cons.injEq, and_true] at hh
 simp [hh] at this
theorem askNo18 {a b : Nat} : TEqIs ⟨(neP a b (18, some .u32), true) :: (reqDef a ++ reqDef b), SAMEQ (reqT a ++ reqT b), .c 0⟩ := fun ν hs d hd => by
 obtain ⟨h1, hd2⟩ := hs
 obtain ⟨ha, hb⟩ := all_app hd2
 obtain ⟨n3, n4, n5, n6, n7, n8, n9, n10, n11, n12, n13, n14, n15, n16, n17, n18, n19, en, vn, xs, hn3, hn4, hn5, hn6, hn7, hn8, hn9, hn10, hn11, hn12, hn13, hn14, hn15, hn16, hn17, hn18, hn19, hn20⟩ := req_of ha
 obtain ⟨m3, m4, m5, m6, m7, m8, m9, m10, m11, m12, m13, m14, m15, m16, m17, m18, m19, em, vm, ys, hm3, hm4, hm5, hm6, hm7, hm8, hm9, hm10, hm11, hm12, hm13, hm14, hm15, hm16, hm17, hm18, hm19, hm20⟩ := req_of hb
 have key := SAMEQ_den hn3 hn4 hn5 hn6 hn7 hn8 hn9 hn10 hn11 hn12 hn13 hn14 hn15 hn16 hn17 hn18 hn19 hn20 hm3 hm4 hm5 hm6 hm7 hm8 hm9 hm10 hm11 hm12 hm13 hm14 hm15 hm16 hm17 hm18 hm19 hm20
 rw [c_b01 false hd]
 refine eqB_of key ?_
 have := neP_some h1 hn18 hm18
 rw [Bool.eq_false_iff]
 intro hh
 simp only [Bool.and_eq_true, decide_eq_true_eq, List.cons.injEq, and_true] at hh
 simp [hh] at this
theorem askNo19 {a b : Nat} : TEqIs ⟨(neP a b (19, some .u32), true) :: (reqDef a ++ reqDef b), SAMEQ (reqT a ++ reqT b), .c 0⟩ := fun ν hs d hd => by
 obtain ⟨h1, hd2⟩ := hs
 obtain ⟨ha, hb⟩ := all_app hd2
 obtain ⟨n3, n4, n5, n6, n7, n8, n9, n10, n11, n12, n13, n14, n15, n16, n17, n18, n19, en, vn, xs, hn3, hn4, hn5, hn6, hn7, hn8, hn9, hn10, hn11, hn12, hn13, hn14, hn15, hn16, hn17, hn18, hn19, hn20⟩ := req_of ha
 obtain ⟨m3, m4, m5, m6, m7, m8, m9, m10, m11, m12, m13, m14, m15, m16, m17, m18, m19, em, vm, ys, hm3, hm4, hm5, hm6, hm7, hm8, hm9, hm10, hm11, hm12, hm13, hm14, hm15, hm16, hm17, hm18, hm19, hm20⟩ := req_of hb
 have key := SAMEQ_den hn3 hn4 hn5 hn6 hn7 hn8 hn9 hn10 hn11 hn12 hn13 hn14 hn15 hn16 hn17 hn18 hn19 hn20 hm3 hm4 hm5 hm6 hm7 hm8 hm9 hm10 hm11 hm12 hm13 hm14 hm15 hm16 hm17 hm18 hm19 hm20
 rw [c_b01 false hd]
 refine eqB_of key ?_
 have := neP_some h1 hn19 hm19
 rw [Bool.eq_false_iff]
 intro hh
 simp only [Bool.and_eq_true, decide_eq_true_eq, List.cons.injEq, and_true] at hh
 simp [hh] at this
theorem askNoL {a b : Nat} : TEqIs ⟨(SAMEL (.x (a + 20)) (.x (b + 20)), false) :: (reqDef a ++ reqDef b), SAMEQ (reqT a ++ reqT b), .c 0⟩ := fun ν hs d hd => by
 obtain ⟨h1, hd2⟩ := hs
 obtain ⟨ha, hb⟩ := all_app hd2
 obtain ⟨n3, n4, n5, n6, n7, n8, n9, n10, n11, n12, n13, n14, n15, n16, n17, n18, n19, en, vn, xs, hn3, hn4, hn5, hn6, hn7, hn8, hn9, hn10, hn11, hn12, hn13, hn14, hn15, hn16, hn17, hn18, hn19, hn20⟩ := req_of ha
 obtain ⟨m3, m4, m5, m6, m7, m8, m9, m10, m11, m12, m13, m14, m15, m16, m17, m18, m19, em, vm, ys, hm3, hm4, hm5, hm6, hm7, hm8, hm9, hm10, hm11, hm12, hm13, hm14, hm15, hm16, hm17, hm18, hm19, hm20⟩ := req_of hb
 have key := SAMEQ_den hn3 hn4 hn5 hn6 hn7 hn8 hn9 hn10 hn11 hn12 hn13 hn14 hn15 hn16 hn17 hn18 hn19 hn20 hm3 hm4 hm5 hm6 hm7 hm8 hm9 hm10 hm11 hm12 hm13 hm14 hm15 hm16 hm17 hm18 hm19 hm20
 rw [c_b01 false hd]
 refine eqB_of key ?_
 have := so_b01 (den_SAMEL hn20 hm20) h1
 rw [this]
 simp
theorem askNoN {a b : Nat} : TEqIs ⟨(.bin .neq .i64 (LEN (.x (a + 20))) (LEN (.x (b + 20))), true) :: (reqDef a ++ reqDef b), SAMEQ (reqT a ++ reqT b), .c 0⟩ := fun ν hs d hd => by
 obtain ⟨h1, hd2⟩ := hs
 obtain ⟨ha, hb⟩ := all_app hd2
 obtain ⟨n3, n4, n5, n6, n7, n8, n9, n10, n11, n12, n13, n14, n15, n16, n17, n18, n19, en, vn, xs, hn3, hn4, hn5, hn6, hn7, hn8, hn9, hn10, hn11, hn12, hn13, hn14, hn15, hn16, hn17, hn18, hn19, hn20⟩ := req_of ha
 obtain ⟨m3, m4, m5, m6, m7, m8, m9, m10, m11, m12, m13, m14, m15, m16, m17, m18, m19, em, vm, ys, hm3, hm4, hm5, hm6, hm7, hm8, hm9, hm10, hm11, hm12, hm13, hm14, hm15, hm16, hm17, hm18, hm19, hm20⟩ := req_of hb
 have key := SAMEQ_den hn3 hn4 hn5 hn6 hn7 hn8 hn9 hn10 hn11 hn12 hn13 hn14 hn15 hn16 hn17 hn18 hn19 hn20 hm3 hm4 hm5 hm6 hm7 hm8 hm9 hm10 hm11 hm12 hm13 hm14 hm15 hm16 hm17 hm18 hm19 hm20
 rw [c_b01 false hd]
 refine eqB_of key ?_
 obtain ⟨x, y, k1, k2, k3⟩ := so_neq h1
 obtain ⟨d1, l1, g1, g2, g3⟩ := len_row k1
 obtain ⟨d2, l2, f1, f2, f3⟩ := len_row k2
 rw [hn20] at g1
 rw [hm20] at f1
 injection g1 with g1
 injection f1 with f1
 subst g1 f1
 have g2 := lenDat_row g2
 have f2 := lenDat_row f2
 subst g2 f2 g3 f3
 rw [Bool.eq_false_iff]
 intro hh
 simp only [Bool.and_eq_true, decide_eq_true_eq] at hh
 have := congrArg List.length hh.1.2
 simp only [List.length_map] at this
 rw [this] at k3
 simp at k3
theorem askYes {a b : Nat} : TEqIs ⟨(SAMEL (.x (a + 20)) (.x (b + 20)), true) :: (.bin .neq .i64 (LEN (.x (a + 20))) (LEN (.x (b + 20))), false) :: (reqParts.map fun p => (neP a b p, false)) ++ (reqDef a ++ reqDef b), SAMEQ (reqT a ++ reqT b), .c 1⟩ := fun ν hs d hd => by
 obtain ⟨hs1, hd2⟩ := all_app hs
 obtain ⟨h1, _, p3, p4, p5, p7, p9, p10, p11, p12, p13, p15, p17, p18, p19, _⟩ := hs1
 obtain ⟨ha, hb⟩ := all_app hd2
 obtain ⟨n3, n4, n5, n6, n7, n8, n9, n10, n11, n12, n13, n14, n15, n16, n17, n18, n19, en, vn, xs, hn3, hn4, hn5, hn6, hn7, hn8, hn9, hn10, hn11, hn12, hn13, hn14, hn15, hn16, hn17, hn18, hn19, hn20⟩ := req_of ha
 obtain ⟨m3, m4, m5, m6, m7, m8, m9, m10, m11, m12, m13, m14, m15, m16, m17, m18, m19, em, vm, ys, hm3, hm4, hm5, hm6, hm7, hm8, hm9, hm10, hm11, hm12, hm13, hm14, hm15, hm16, hm17, hm18, hm19, hm20⟩ := req_of hb
 have key := SAMEQ_den hn3 hn4 hn5 hn6 hn7 hn8 hn9 hn10 hn11 hn12 hn13 hn14 hn15 hn16 hn17 hn18 hn19 hn20 hm3 hm4 hm5 hm6 hm7 hm8 hm9 hm10 hm11 hm12 hm13 hm14 hm15 hm16 hm17 hm18 hm19 hm20
 rw [c_b01 true hd]
 refine eqB_of key ?_
 have hl := so_b01 (den_SAMEL hn20 hm20) h1
 rw [hl]
 have q3 := neP_some p3 hn3 hm3
 have q4 := neP_some p4 hn4 hm4
 have q5 := neP_none p5 hn5 hm5 hn6 hm6
 have q7 := neP_none p7 hn7 hm7 hn8 hm8
 have q9 := neP_some p9 hn9 hm9
 have q10 := neP_some p10 hn10 hm10
 have q11 := neP_some p11 hn11 hm11
 have q12 := neP_some p12 hn12 hm12
 have q13 := neP_none p13 hn13 hm13 hn14 hm14
 have q15 := neP_none p15 hn15 hm15 hn16 hm16
 have q17 := neP_some p17 hn17 hm17
 have q18 := neP_some p18 hn18 hm18
 have q19 := neP_some p19 hn19 hm19
 simp only [Bool.not_eq_false, Bool.not_false, Bool.and_eq_true, decide_eq_true_eq, Bool.not_eq_eq_eq_not] at q3 q4 q5 q7 q9 q10 q11 q12 q13 q15 q17 q18 q19
 simp [*]
theorem askEqs_ok {a b : Nat} : TEqOk (askEqs a b) := (teq_cons askYes (teq_cons askNoL (teq_cons askNoN (teq_cons askNo3 (teq_cons askNo4 (teq_cons askNo5 (teq_cons askNo7 (teq_cons askNo9 (teq_cons askNo10 (teq_cons askNo11 (teq_cons askNo12 (teq_cons askNo13 (teq_cons askNo15 (teq_cons askNo17 (teq_cons askNo18 (teq_cons askNo19 teq_nil))))))))))))))))
end
end Go.Proofs.YtcjbpaiomcfgnaaGreatDoor
namespace Go.Proofs.YtcjbpaiomcfgnaaGreatDoor
open Go
section
variable {ν : Nm}
end
end Go.Proofs.YtcjbpaiomcfgnaaGreatDoor
