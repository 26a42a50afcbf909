/- ScriptPuts, ScriptGets: what is put is read, and what is read is what was put: plain, of bytes. -/
import Derived.Test.YtcjbpaiomcfgnaaGreatDoorGpp
import Derived.Test.YtcjbpaiomcfgnaaGreatDoorGsp
set_option linter.unusedVariables false
set_option linter.unusedSimpArgs false
namespace Go.Proofs.YtcjbpaiomcfgnaaGreatDoor
open Go
set_option maxRecDepth 20000
theorem beN_beB : ∀ (k n : Nat), beN (beB k n) = n % 256 ^ k
 | 0, n => by simp [beB, beN, Nat.mod_one]
 | k + 1, n => by
  show beN (UInt8.ofNat (n / 256 ^ k) :: beB k n) = _
  rw [beN_cons, beB_len, beN_beB k n, UInt8.toNat_ofNat']
  have h : n % (256 ^ k * 256) = n % 256 ^ k + 256 ^ k * (n / 256 ^ k % 256) := Nat.mod_mul
  have e : 256 ^ (k + 1) = 256 ^ k * 256 := Nat.pow_succ _ _
  rw [e, h, Nat.mul_comm, Nat.add_comm]
theorem rd1_numB {n : Nat} (h : n < 18446744073709551616) (rest : List UInt8) : rd1 (numB n ++ rest) = ((numB n).length, some n) := by
 by_cases hs : n < 128
 ·have e : numB n = [UInt8.ofNat n] := by unfold numB; rw [if_pos hs]
  rw [e]
  have hb : (UInt8.ofNat n).toNat = n := by rw [UInt8.toNat_ofNat']; exact Nat.mod_eq_of_lt (by simp only [Nat.reducePow]; omega)
  show rd1 (UInt8.ofNat n :: rest) = _
  rw [rd1_small (by rw [hb]; exact hs), hb]
  rfl
 ·have e : numB n = UInt8.ofNat (128 + cntB n) :: beB (cntB n) n := by unfold numB; rw [if_neg hs]
  have h1 := cntB_pos n
  have h8 := cntB_le n
  have hb : (UInt8.ofNat (128 + cntB n)).toNat = 128 + cntB n := by rw [UInt8.toNat_ofNat']; exact Nat.mod_eq_of_lt (by simp only [Nat.reducePow]; omega)
  have hv : beN (beB (cntB n) n) = n := by rw [beN_beB, Nat.mod_eq_of_lt (cntB_lt h)]
  have ht := (canon (t := beB (cntB n) n) h1 h8 (beB_len _ _)).1 (by rw [hv, e])
  have hk : (beB (cntB n) n ++ rest).take (cntB n) = beB (cntB n) n := by
   rw [List.take_left' (beB_len _ _)]
  have hh : (beB (cntB n) n ++ rest).headD 0 = (beB (cntB n) n).headD 0 := by
   cases hc : beB (cntB n) n with
   | nil =>
    have := beB_len (cntB n) n
    rw [hc] at this
    simp only [List.length_nil] at this
    omega
   | cons a l => rfl
  rw [e]
  show rd1 (UInt8.ofNat (128 + cntB n) :: (beB (cntB n) n ++ rest)) = _
  rw [rd1_big hb h1 h8 (by simp only [List.length_append, beB_len]; omega), hk, hh, if_pos ht, hv]
  simp only [List.length_cons, beB_len]
  rw [Nat.add_comm]
theorem numB_rd1 {l : List UInt8} {c n : Nat} (h : rd1 l = (c, some n)) : l = numB n ++ l.drop c ∧ c = (numB n).length := by
 cases l with
 | nil => simp [rd1] at h
 | cons b r =>
  by_cases hs : b.toNat < 128
  ·rw [rd1_small hs] at h
   injection h with h1 h2
   injection h2 with h2
   subst h1 h2
   unfold numB
   rw [if_pos hs]
   simp
  ·by_cases hb : b.toNat - 128 < 1 ∨ 8 < b.toNat - 128 ∨ r.length < b.toNat - 128
   ·rw [rd1_bad hs hb] at h
    cases h
   ·obtain ⟨k, hk⟩ : ∃ k, b.toNat = 128 + k := ⟨b.toNat - 128, by omega⟩
    have h1 : 1 ≤ k := by omega
    have h8 : k ≤ 8 := by omega
    have hr : k ≤ r.length := by omega
    rw [rd1_big hk h1 h8 hr] at h
    injection h with e1 e2
    split at e2
    ·rename_i hc
     injection e2 with e2
     have ht : (r.take k).length = k := by rw [List.length_take]; omega
     have hh : (r.take k).headD 0 = r.headD 0 := by
      cases r with
      | nil => rw [List.length_nil] at hr; omega
      | cons a r => obtain ⟨k, rfl⟩ : ∃ j, k = j + 1 := ⟨k - 1, by omega⟩; rfl
     have := (canon h1 h8 ht).2 ⟨by rw [hh]; exact hc.1, hc.2⟩
     rw [e2] at this
     have hb : UInt8.ofNat (128 + k) = b := by rw [← hk]; exact UInt8.ofNat_toNat
     rw [hb] at this
     rw [this]
     subst e1
     refine ⟨?_, ?_⟩
     ·show b :: r = b :: (r.take k ++ List.drop (1 + k) (b :: r))
      rw [Nat.add_comm, List.drop_succ_cons, List.take_append_drop]
     ·simp only [List.length_cons, ht]
      omega
    ·cases e2
structure Rd (l : List UInt8) (ρ : Int) (b : List UInt8) (σ : Int) : Prop where
 z : 0 ≤ ρ
 e : σ = ρ + b.length
 d : l.drop ρ.toNat = b ++ l.drop σ.toNat
theorem Rd.nil {l : List UInt8} {ρ : Int} (h : 0 ≤ ρ) : Rd l ρ [] ρ := ⟨h, by simp, rfl⟩
theorem Rd.all (l : List UInt8) : Rd l 0 l l.length := ⟨Int.le_refl _, by simp, by simp⟩
theorem Rd.z2 {l : List UInt8} {ρ σ : Int} {b : List UInt8} (h : Rd l ρ b σ) : 0 ≤ σ := by
 have := h.z; have := h.e; omega
theorem Rd.app {l : List UInt8} {ρ σ τ : Int} {a b : List UInt8} (h : Rd l ρ a σ) (k : Rd l σ b τ) : Rd l ρ (a ++ b) τ :=
 ⟨h.z, by rw [k.e, h.e, List.length_append]; omega, by rw [h.d, k.d, List.append_assoc]⟩
theorem Rd.cut {l : List UInt8} {ρ τ : Int} {a b : List UInt8} (h : Rd l ρ (a ++ b) τ) : ∃ σ, Rd l ρ a σ ∧ Rd l σ b τ := by
 have hz := h.z
 have he := h.e
 rw [List.length_append] at he
 have hd : l.drop (ρ + (a.length : Int)).toNat = b ++ l.drop τ.toNat := by
  have e : (ρ + (a.length : Int)).toNat = ρ.toNat + a.length := by omega
  rw [e, ← List.drop_drop, h.d, List.append_assoc, List.drop_left]
 refine ⟨ρ + a.length, ⟨hz, rfl, ?_⟩, ⟨by omega, by omega, hd⟩⟩
 rw [hd, h.d, List.append_assoc]
theorem NB_of {n : Int} (h0 : 0 ≤ n) (h : n ≤ 18446744073709551615) : NB n = numB n.toNat := by
 unfold NB w64
 rw [wu64 h0 h]
theorem num_rd {l : List UInt8} {ρ σ n m : Int} (h : Rd l ρ (NB n) σ) (h0 : 0 ≤ n) (hm : n ≤ m) (h64 : n ≤ 18446744073709551615) : stepZ l ρ m = σ ∧ valZ l ρ m = n := by
 have hz := h.z
 have hd := h.d
 rw [NB_of h0 h64] at hd
 have := rd1_numB (n := n.toNat) (by omega) (l.drop σ.toNat)
 rw [← hd] at this
 obtain ⟨a, b⟩ := step_ok hz this (m := m) (by omega)
 refine ⟨?_, by omega⟩
 rw [a, h.e, NB_of h0 h64]
theorem num_back {l : List UInt8} {ρ m : Int} (h0 : 0 ≤ ρ) (h : 0 ≤ stepZ l ρ m) (hm : 0 ≤ m) : Rd l ρ (NB (valZ l ρ m)) (stepZ l ρ m) ∧ 0 ≤ valZ l ρ m ∧ valZ l ρ m ≤ m ∧ valZ l ρ m ≤ 18446744073709551615 := by
 have hr := valZ_rng l ρ m
 have h64 := valZ_lt l ρ m
 refine ⟨?_, hr.1, hr.2 hm, h64⟩
 cases hq : rd1 (l.drop ρ.toNat) with
 | mk c q =>
  cases hn : okN m q with
  | false =>
   rw [(step_no h0 hq hn).1] at h
   omega
  | true =>
   cases q with
   | none => cases hn
   | some n =>
    have hn := of_decide_eq_true hn
    obtain ⟨a, b⟩ := step_ok h0 hq hn
    obtain ⟨e1, e2⟩ := numB_rd1 hq
    rw [a, b]
    rw [b] at h64
    have e3 : NB (n : Int) = numB n := by rw [NB_of (by omega) h64]; rfl
    rw [e3]
    refine ⟨h0, by rw [e2], ?_⟩
    have : (ρ + (c : Int)).toNat = ρ.toNat + c := by omega
    rw [this, ← List.drop_drop]
    exact e1
theorem step_pos {l : List UInt8} {ρ m : Int} (h : 0 ≤ stepZ l ρ m) : 0 ≤ ρ := Int.not_lt.1 fun hc => by
 have := stepZ_neg (l := l) (m := m) hc
 omega
theorem dst_pos {l : List UInt8} {ρ : Int} (h : 0 ≤ dstZ l ρ) : 0 ≤ ρ := step_pos (step_pos h)
theorem dot_rd {l : List UInt8} {ρ σ a b : Int} (h : Rd l ρ (NB a ++ NB b) σ) (a0 : 0 ≤ a) (a1 : a ≤ 255) (b0 : 0 ≤ b) (b1 : b ≤ 4294967295) : dstZ l ρ = σ ∧ drZ l ρ = a ∧ dnZ l ρ = b := by
 obtain ⟨τ, h1, h2⟩ := h.cut
 obtain ⟨e1, e2⟩ := num_rd h1 a0 a1 (by omega)
 obtain ⟨e3, e4⟩ := num_rd h2 b0 b1 (by omega)
 have e : dstZ l ρ = σ := by unfold dstZ; rw [e1, e3]
 have hz := h.z2
 unfold drZ dnZ
 rw [e, if_pos hz, if_pos hz, e1]
 exact ⟨rfl, e2, e4⟩
theorem dot_back {l : List UInt8} {ρ : Int} (h : 0 ≤ dstZ l ρ) : Rd l ρ (NB (drZ l ρ) ++ NB (dnZ l ρ)) (dstZ l ρ) := by
 have h1 : 0 ≤ stepZ l ρ 255 := step_pos h
 obtain ⟨a, _⟩ := num_back (step_pos h1) h1 (by decide)
 obtain ⟨b, _⟩ := num_back h1 (m := 4294967295) h (by decide)
 unfold drZ dnZ
 rw [if_pos h, if_pos h]
 exact a.app b
def OkV : List (Option Int) → List Int → Prop
 | [], [] => True
 | some m :: r, v :: vs => 0 ≤ v ∧ v ≤ m ∧ v ≤ 18446744073709551615 ∧ OkV r vs
 | none :: r, a :: b :: vs => 0 ≤ a ∧ a ≤ 255 ∧ 0 ≤ b ∧ b ≤ 4294967295 ∧ OkV r vs
 | _, _ => False
theorem ops_rd {l : List UInt8} : ∀ {ops : List (Option Int)} {vs : List Int} {ρ σ : Int}, OkV ops vs → Rd l ρ (vs.flatMap NB) σ → opsStepZ l ops ρ = σ ∧ opsValsZ l ops ρ = vs
 | [], [], ρ, σ, _, h => by
  have := h.e
  simp at this
  exact ⟨this.symm, rfl⟩
 | some m :: r, v :: vs, ρ, σ, hv, h => by
  obtain ⟨v0, v1, v2, hv⟩ := hv
  rw [List.flatMap_cons] at h
  obtain ⟨τ, h1, h2⟩ := h.cut
  obtain ⟨e1, e2⟩ := num_rd h1 v0 v1 v2
  obtain ⟨e3, e4⟩ := ops_rd hv h2
  unfold opsStepZ opsValsZ opStepZ opValsZ
  simp only
  rw [e1, e2, e3, e4]
  exact ⟨rfl, rfl⟩
 | none :: r, a :: b :: vs, ρ, σ, hv, h => by
  obtain ⟨v0, v1, v2, v3, hv⟩ := hv
  rw [List.flatMap_cons, List.flatMap_cons, ← List.append_assoc] at h
  obtain ⟨τ, h1, h2⟩ := h.cut
  obtain ⟨e1, e2, e5⟩ := dot_rd h1 v0 v1 v2 v3
  obtain ⟨e3, e4⟩ := ops_rd hv h2
  unfold opsStepZ opsValsZ opStepZ opValsZ
  simp only
  rw [e1, e2, e3, e4, e5]
  exact ⟨rfl, rfl⟩
 | [], _ :: _, _, _, hv, _ => hv.elim
 | some _ :: _, [], _, _, hv, _ => hv.elim
 | none :: _, [], _, _, hv, _ => hv.elim
 | none :: _, [_], _, _, hv, _ => hv.elim
theorem opStep_pos {l : List UInt8} {ρ : Int} {o : Option Int} (h : 0 ≤ opStepZ l ρ o) : 0 ≤ ρ := by
 cases o with
 | none => exact dst_pos h
 | some m => exact step_pos h
theorem ops_pos {l : List UInt8} : ∀ {ops : List (Option Int)} {ρ : Int}, 0 ≤ opsStepZ l ops ρ → 0 ≤ ρ
 | [], _, h => h
 | _ :: _, _, h => opStep_pos (ops_pos h)
theorem ops_back {l : List UInt8} : ∀ {ops : List (Option Int)} {ρ : Int}, (∀ m, some m ∈ ops → 0 ≤ m) → 0 ≤ opsStepZ l ops ρ → Rd l ρ ((opsValsZ l ops ρ).flatMap NB) (opsStepZ l ops ρ) ∧ OkV ops (opsValsZ l ops ρ)
 | [], _, _, h => ⟨Rd.nil h, trivial⟩
 | some m :: r, ρ, hm, h => by
  have h1 : 0 ≤ opStepZ l ρ (some m) := ops_pos h
  obtain ⟨a, b⟩ := ops_back (fun x hx => hm x (List.mem_cons_of_mem _ hx)) h
  obtain ⟨c, d0, d1, d2⟩ := num_back (step_pos h1) h1 (hm m (List.mem_cons_self ..))
  refine ⟨?_, d0, d1, d2, b⟩
  show Rd l ρ ((valZ l ρ m :: opsValsZ l r (stepZ l ρ m)).flatMap NB) _
  rw [List.flatMap_cons]
  exact c.app a
 | none :: r, ρ, hm, h => by
  have h1 : 0 ≤ opStepZ l ρ none := ops_pos h
  obtain ⟨a, b⟩ := ops_back (fun x hx => hm x (List.mem_cons_of_mem _ hx)) h
  have c := dot_back h1
  refine ⟨?_, (drZ_rng ..).1, (drZ_rng ..).2, (dnZ_rng ..).1, (dnZ_rng ..).2, b⟩
  show Rd l ρ ((drZ l ρ :: dnZ l ρ :: opsValsZ l r (dstZ l ρ)).flatMap NB) _
  rw [List.flatMap_cons, List.flatMap_cons, ← List.append_assoc]
  exact c.app a
def OkLn (x : List Int) : Prop := OkV [none, none] x
theorem line_rd {l : List UInt8} {x : List Int} {ρ σ : Int} (hx : OkLn x) (h : Rd l ρ (x.flatMap NB) σ) : dstZ l (dstZ l ρ) = σ ∧ lineZ l ρ = x := by
 obtain ⟨a, b⟩ := ops_rd hx h
 exact ⟨a, b⟩
theorem lines_rd {l : List UInt8} : ∀ {xs : List (List Int)} {ρ σ : Int}, (∀ x ∈ xs, OkLn x) → Rd l ρ (xs.flatMap fun x => x.flatMap NB) σ → lstZ l xs.length ρ = σ ∧ linesZ l xs.length ρ = xs
 | [], ρ, σ, _, h => by
  have := h.e
  simp at this
  exact ⟨this.symm, rfl⟩
 | x :: xs, ρ, σ, hx, h => by
  rw [List.flatMap_cons] at h
  obtain ⟨τ, h1, h2⟩ := h.cut
  obtain ⟨e1, e2⟩ := line_rd (hx x (List.mem_cons_self ..)) h1
  obtain ⟨e3, e4⟩ := lines_rd (fun y hy => hx y (List.mem_cons_of_mem _ hy)) h2
  show lstZ l xs.length (dstZ l (dstZ l ρ)) = σ ∧ lineZ l ρ :: linesZ l xs.length (dstZ l (dstZ l ρ)) = x :: xs
  rw [e1, e2, e3, e4]
  exact ⟨rfl, rfl⟩
theorem lst_pos {l : List UInt8} {n : Nat} {ρ : Int} (h : 0 ≤ lstZ l n ρ) : 0 ≤ ρ := Int.not_lt.1 fun hc => by
 have := lstZ_neg (l := l) n hc
 omega
theorem lines_back {l : List UInt8} : ∀ {n : Nat} {ρ : Int}, 0 ≤ lstZ l n ρ → Rd l ρ ((linesZ l n ρ).flatMap fun x => x.flatMap NB) (lstZ l n ρ) ∧ (linesZ l n ρ).length = n ∧ ∀ x ∈ linesZ l n ρ, OkLn x
 | 0, _, h => ⟨Rd.nil h, rfl, fun _ hx => by cases hx⟩
 | n + 1, ρ, h => by
  have h1 : 0 ≤ dstZ l (dstZ l ρ) := lst_pos (n := n) h
  obtain ⟨a, b, c⟩ := lines_back (n := n) h
  obtain ⟨d, e⟩ := ops_back (ops := [none, none]) (l := l) (ρ := ρ) (by simp) h1
  refine ⟨?_, by show _ + 1 = _; rw [b], fun x hx => ?_⟩
  ·show Rd l ρ ((lineZ l ρ :: linesZ l n (dstZ l (dstZ l ρ))).flatMap fun x => x.flatMap NB) _
   rw [List.flatMap_cons]
   exact Rd.app d a
  ·rcases List.mem_cons.1 hx with rfl | hx
   ·exact e
   ·exact c x hx
structure OkA (v : ActV) : Prop where
 a : OkV rdOpsZ v.1
 n : v.2.1.length ≤ 16
 l : ∀ x ∈ v.2.1, OkLn x
 d : OkV [none] v.2.2
theorem rdOps_pos : ∀ m, some m ∈ rdOpsZ → 0 ≤ m := by
 intro m hm
 have key : ∀ o ∈ rdOpsZ, ∀ m, o = some m → 0 ≤ m := by
  unfold rdOpsZ
  simp
 exact key _ hm m rfl
theorem act_rd {l : List UInt8} {v : ActV} {ρ σ : Int} (hv : OkA v) (h : Rd l ρ (encA v) σ) : astZ l ρ = σ ∧ actZ l ρ = v := by
 obtain ⟨v1, v2, v3⟩ := v
 obtain ⟨ha, hn, hl, hd⟩ := hv
 simp only at ha hn hl hd
 unfold encA at h
 simp only at h
 obtain ⟨τ, h1, h⟩ := h.cut
 obtain ⟨τ2, h2, h⟩ := h.cut
 obtain ⟨τ3, h3, h4⟩ := h.cut
 obtain ⟨e1, e2⟩ := ops_rd ha h1
 obtain ⟨e3, e4⟩ := num_rd (m := 16) h2 (by omega) (by omega) (by omega)
 obtain ⟨e5, e6⟩ := lines_rd hl h3
 obtain ⟨e7, e8⟩ := ops_rd hd h4
 have eN : rNZ l ρ = τ := e1
 have en : nLZ l ρ = (v2.length : Int) := by unfold nLZ; rw [eN, e4]
 have eL : rLZ l ρ = τ2 := by unfold rLZ; rw [eN, e3]
 have eE : eLZ l ρ = τ3 := by unfold eLZ; rw [en, eL, Int.toNat_natCast, e5]
 refine ⟨?_, ?_⟩
 ·unfold astZ
  rw [eE]
  exact e7
 ·unfold actZ
  rw [e2, en, eL, Int.toNat_natCast, e6, eE]
  have e8 : [drZ l τ3, dnZ l τ3] = v3 := e8
  rw [e8]
theorem act_back {l : List UInt8} {ρ : Int} (h : 0 ≤ astZ l ρ) : Rd l ρ (encA (actZ l ρ)) (astZ l ρ) ∧ OkA (actZ l ρ) := by
 have hE : 0 ≤ eLZ l ρ := dst_pos h
 have hL : 0 ≤ rLZ l ρ := lst_pos hE
 have hN : 0 ≤ rNZ l ρ := step_pos hL
 obtain ⟨a1, a2⟩ := ops_back rdOps_pos hN
 obtain ⟨b1, b2, b3, _⟩ := num_back hN hL (by decide)
 obtain ⟨c1, c2, c3⟩ := lines_back (l := l) (n := (nLZ l ρ).toNat) (ρ := rLZ l ρ) hE
 obtain ⟨d1, d2⟩ := ops_back (ops := [none]) (l := l) (ρ := eLZ l ρ) (by simp) h
 have hn : ((linesZ l (nLZ l ρ).toNat (rLZ l ρ)).length : Int) = nLZ l ρ := by
  rw [c2]
  have : 0 ≤ nLZ l ρ := b2
  omega
 refine ⟨?_, a2, ?_, c3, d2⟩
 ·have e : encA (actZ l ρ) = (opsValsZ l rdOpsZ ρ).flatMap NB ++ (NB (linesZ l (nLZ l ρ).toNat (rLZ l ρ)).length ++ ((linesZ l (nLZ l ρ).toNat (rLZ l ρ)).flatMap (fun x => x.flatMap NB) ++ [drZ l (eLZ l ρ), dnZ l (eLZ l ρ)].flatMap NB)) := rfl
  have a1 : Rd l ρ ((opsValsZ l rdOpsZ ρ).flatMap NB) (rNZ l ρ) := a1
  have b1 : Rd l (rNZ l ρ) (NB (nLZ l ρ)) (rLZ l ρ) := b1
  have c1 : Rd l (rLZ l ρ) ((linesZ l (nLZ l ρ).toNat (rLZ l ρ)).flatMap fun x => x.flatMap NB) (eLZ l ρ) := c1
  have d1 : Rd l (eLZ l ρ) ([drZ l (eLZ l ρ), dnZ l (eLZ l ρ)].flatMap NB) (astZ l ρ) := d1
  rw [e, hn]
  exact a1.app (b1.app (c1.app d1))
 ·show (linesZ l (nLZ l ρ).toNat (rLZ l ρ)).length ≤ 16
  have : nLZ l ρ ≤ 16 := b3
  omega
theorem acts_rd {l : List UInt8} : ∀ {vs : List ActV} {ρ σ : Int}, (∀ v ∈ vs, OkA v) → Rd l ρ (encF vs) σ → aendZ l vs.length ρ = σ ∧ asZ l vs.length ρ = vs
 | [], ρ, σ, _, h => by
  have := h.e
  simp [encF] at this
  exact ⟨this.symm, rfl⟩
 | v :: vs, ρ, σ, hv, h => by
  have h' : Rd l ρ (encA v ++ encF vs) σ := by
   have e : encF (v :: vs) = encA v ++ encF vs := by unfold encF; rw [List.flatMap_cons]
   rw [← e]
   exact h
  obtain ⟨τ, h1, h2⟩ := h'.cut
  obtain ⟨e1, e2⟩ := act_rd (hv v (List.mem_cons_self ..)) h1
  obtain ⟨e3, e4⟩ := acts_rd (fun y hy => hv y (List.mem_cons_of_mem _ hy)) h2
  rw [List.length_cons, aendZ_pos h.z, asZ_pos h.z, e1, e2, e3, e4]
  exact ⟨rfl, rfl⟩
theorem acts_back {l : List UInt8} : ∀ {n : Nat} {ρ : Int}, 0 ≤ aendZ l n ρ → Rd l ρ (encF (asZ l n ρ)) (aendZ l n ρ) ∧ (asZ l n ρ).length = n ∧ ∀ x ∈ asZ l n ρ, OkA x
 | 0, _, h => ⟨Rd.nil h, rfl, fun _ hx => by cases hx⟩
 | n + 1, ρ, h => by
  have h0 := aend_back _ h
  rw [aendZ_pos h0] at h ⊢
  rw [asZ_pos h0]
  obtain ⟨a, b, c⟩ := acts_back (n := n) h
  obtain ⟨d, e⟩ := act_back (aend_back _ h)
  refine ⟨?_, by rw [List.length_cons, b], fun x hx => ?_⟩
  ·have e : encF (actZ l ρ :: asZ l n (astZ l ρ)) = encA (actZ l ρ) ++ encF (asZ l n (astZ l ρ)) := by unfold encF; rw [List.flatMap_cons]
   rw [e]
   exact d.app a
  ·rcases List.mem_cons.1 hx with rfl | hx
   ·exact e
   ·exact c x hx
def plan4 (l : List UInt8) : List Int := [valZ l (rPZ l 0) 16777216, valZ l (rPZ l 1) 16777216, valZ l (rPZ l 2) 16777216, valZ l (rPZ l 3) 16777216]
theorem script_rd {p : List Int} {vs : List ActV} {a b c d : Int} (hp : p = [a, b, c, d]) (hs : p.all small24 = true) (hn : vs.length ≤ 4096) (hv : ∀ v ∈ vs, OkA v) : goodZ (scrB p vs) = true ∧ scriptActs (scrB p vs) = vs ∧ plan4 (scrB p vs) = p := by
 subst hp
 generalize hl : scrB [a, b, c, d] vs = l
 have h : Rd l 0 (scrB [a, b, c, d] vs) l.length := by rw [hl]; exact Rd.all l
 unfold scrB at h
 obtain ⟨τ, h1, h⟩ := h.cut
 obtain ⟨τ2, h2, h3⟩ := h.cut
 simp only [List.all_cons, List.all_nil, Bool.and_true, Bool.and_eq_true, small24] at hs
 obtain ⟨sa, sb, sc, sd⟩ := hs
 have sa := of_decide_eq_true sa
 have sb := of_decide_eq_true sb
 have sc := of_decide_eq_true sc
 have sd := of_decide_eq_true sd
 have hok : OkV [some 16777216, some 16777216, some 16777216, some 16777216] [a, b, c, d] := ⟨sa.1, sa.2, by omega, sb.1, sb.2, by omega, sc.1, sc.2, by omega, sd.1, sd.2, by omega, trivial⟩
 obtain ⟨e1, e2⟩ := ops_rd hok h1
 obtain ⟨e3, e4⟩ := num_rd (m := 4096) h2 (by omega) (by omega) (by omega)
 obtain ⟨e5, e6⟩ := acts_rd hv h3
 have eP : rPZ l 4 = τ := e1
 have en : nAZ l = (vs.length : Int) := by unfold nAZ; rw [eP, e4]
 have eA : rAZ l = τ2 := by unfold rAZ; rw [eP, e3]
 have eE : scriptEnd l = (l.length : Int) := by unfold scriptEnd; rw [en, eA, Int.toNat_natCast, e5]
 refine ⟨decide_eq_true (by rw [eE]; omega), ?_, e2⟩
 unfold scriptActs
 rw [en, eA, Int.toNat_natCast, e6]
theorem script_back {l : List UInt8} (h : goodZ l = true) : scrB (plan4 l) (scriptActs l) = l ∧ (plan4 l).all small24 = true ∧ (scriptActs l).length ≤ 4096 ∧ ∀ v ∈ scriptActs l, OkA v := by
 obtain ⟨h, hl⟩ := of_decide_eq_true h
 have hA : 0 ≤ rAZ l := aend_back _ h
 have hP : 0 ≤ rPZ l 4 := step_pos hA
 obtain ⟨a1, a2⟩ := ops_back (ops := [some 16777216, some 16777216, some 16777216, some 16777216]) (l := l) (ρ := 0) (by simp) hP
 obtain ⟨b1, b2, b3, _⟩ := num_back hP hA (by decide)
 obtain ⟨c1, c2, c3⟩ := acts_back (l := l) (n := (nAZ l).toNat) (ρ := rAZ l) h
 have hn : ((scriptActs l).length : Int) = nAZ l := by
  unfold scriptActs
  rw [c2]
  have : 0 ≤ nAZ l := b2
  omega
 have hr : Rd l 0 (scrB (plan4 l) (scriptActs l)) (scriptEnd l) := by
  unfold scrB
  rw [hn]
  exact a1.app (b1.app c1)
 refine ⟨?_, ?_, ?_, c3⟩
 ·have := hr.d
  rw [List.drop_eq_nil_of_le (i := (scriptEnd l).toNat) (by omega), List.append_nil] at this
  exact this.symm
 ·obtain ⟨p0, p1, _, q0, q1, _, r0, r1, _, s0, s1, _, _⟩ := a2
  unfold plan4
  simp only [List.all_cons, List.all_nil, Bool.and_true, Bool.and_eq_true, small24]
  exact ⟨decide_eq_true ⟨p0, p1⟩, decide_eq_true ⟨q0, q1⟩, decide_eq_true ⟨r0, r1⟩, decide_eq_true ⟨s0, s1⟩⟩
 ·have : nAZ l ≤ 4096 := b3
  omega
end Go.Proofs.YtcjbpaiomcfgnaaGreatDoor
namespace Go.Proofs.YtcjbpaiomcfgnaaGreatDoor
open Go
set_option maxRecDepth 20000
section
variable {ν : Nm}
theorem so_ANYL {y : Tm} {b : Bool} : IsSo ν (ANYL y) b ↔ ∃ Y, denT ν y = some Y ∧ (actsZ Y).any longZ = b := so_T1 (f := fun Y => (actsZ Y).any longZ) rfl fun _ => rfl
theorem so_ANYT {y : Tm} {b : Bool} : IsSo ν (ANYT y) b ↔ ∃ Y, denT ν y = some Y ∧ (actsZ Y).any farZ = b := so_T1 (f := fun Y => (actsZ Y).any farZ) rfl fun _ => rfl
theorem so_SAMEALL {y z : Tm} {b : Bool} : IsSo ν (SAMEALL y z) b ↔ ∃ Y Z, denT ν y = some Y ∧ denT ν z = some Z ∧ decide (actsZ Y = actsZ Z) = b := so_T2 (f := fun Y Z => decide (actsZ Y = actsZ Z)) rfl fun _ _ => rfl
theorem den_REST {y i : Tm} {d : Dat} : denT ν (REST y i) = some d ↔ ∃ Y I, denT ν y = some Y ∧ denT ν i = some I ∧ d = .n ((encF ((actsZ Y).drop (numOf I).toNat)).length) := den_T2 rfl
theorem den_MAYF {a b c e l : Tm} {d : Dat} : denT ν (MAYF [a, b, c, e] l) = some d ↔ ∃ A B C E L, denT ν a = some A ∧ denT ν b = some B ∧ denT ν c = some C ∧ denT ν e = some E ∧ denT ν l = some L ∧ d = .n (mayZ [numOf A, numOf B, numOf C, numOf E] (actsZ L)) := den_T5 rfl
theorem den_SCR {a b c e l : Tm} {d : Dat} : denT ν (SCR [a, b, c, e] l) = some d ↔ ∃ A B C E L, denT ν a = some (.n A) ∧ denT ν b = some (.n B) ∧ denT ν c = some (.n C) ∧ denT ν e = some (.n E) ∧ denT ν l = some L ∧ d = .s (scrB [A, B, C, E] (actsZ L)) := by
 unfold SCR
 rw [den_U (by omega)]
 constructor
 ·rintro ⟨ds, h, k⟩
  obtain ⟨A, r1, h1, q1, rfl⟩ := denTs_cons h
  obtain ⟨B, r2, h2, q2, rfl⟩ := denTs_cons q1
  obtain ⟨C, r3, h3, q3, rfl⟩ := denTs_cons q2
  obtain ⟨E, r4, h4, q4, rfl⟩ := denTs_cons q3
  obtain ⟨L, h5, rfl⟩ := denTs1.1 q4
  have k : flatU (match ([A, B, C, E, L] : List Dat) with
   | [.n a, .n b, .n c, .n d, l] => some (.s (scrB [a, b, c, d] (actsZ l)))
   | _ => none) = some d := k
  cases A <;> first | (cases k; done) | skip
  cases B <;> first | (cases k; done) | skip
  cases C <;> first | (cases k; done) | skip
  cases E <;> first | (cases k; done) | skip
  injection k with k
  exact ⟨_, _, _, _, L, h1, h2, h3, h4, h5, k.symm⟩
 ·rintro ⟨A, B, C, E, L, h1, h2, h3, h4, h5, rfl⟩
  exact ⟨_, denTs_mk h1 (denTs_mk h2 (denTs_mk h3 (denTs_mk h4 (denTs_mk h5 rfl)))), rfl⟩
theorem okS_of {s y : Tm} (h : AllSo ν (okS s y)) : ∃ S e v xs, denT ν s = some S ∧ denT ν y = some (.r e v xs) ∧ goodZ (strOf S) = true ∧ actsZ (.r e v xs) = scriptActs (strOf S) := by
 obtain ⟨h1, h2, _⟩ := h
 obtain ⟨S, k1, k2⟩ := so_GOOD.1 h1
 obtain ⟨S', Y, g1, g2, g3⟩ := so_ISACTS.1 h2
 rw [k1] at g1; injection g1 with g1; subst g1
 obtain ⟨e1, e2⟩ := of_decide_eq_true g3 k2
 cases Y <;> simp [isrZ] at e1
 exact ⟨S, _, _, _, k1, g2, k2, e2⟩
theorem not_long {l : List UInt8} (h : goodZ l = true) : (scriptActs l).any longZ = false := by
 obtain ⟨_, _, _, h4⟩ := script_back h
 rw [List.any_eq_false]
 intro v hv
 have := (h4 v hv).n
 unfold longZ
 simp only [decide_eq_true_eq]
 omega
theorem at_ok {v : ActV} (h : OkA v) : small24 (atOf v) = true := by
 have h := h.a
 obtain ⟨v1, v2⟩ := v
 unfold atOf small24
 simp only at h ⊢
 match v1, h with
 | a :: b :: c :: r, h =>
  obtain ⟨_, _, _, _, _, _, h0, h1, _⟩ := h
  exact decide_eq_true ⟨h0, h1⟩
 | [], h => exact h.elim
 | [_], h => exact h.2.2.2.elim
 | [_, _], h => exact h.2.2.2.2.2.2.elim
theorem may_back {l : List UInt8} (h : goodZ l = true) : mayZ (plan4 l) (scriptActs l) = 0 := by
 obtain ⟨h1, h2, h3, h4⟩ := script_back h
 unfold mayZ
 rw [not_long h, if_neg (by rintro (h | h); omega; cases h), if_pos]
 refine ⟨h2, ?_⟩
 rw [List.any_eq_false]
 intro v hv
 unfold farZ
 rw [at_ok (h4 v hv)]
 decide
theorem den_PLs {s : Tm} {S : Dat} (h : denT ν s = some S) : denT ν (PL s 0) = some (.n (valZ (strOf S) (rPZ (strOf S) 0) 16777216)) ∧ denT ν (PL s 1) = some (.n (valZ (strOf S) (rPZ (strOf S) 1) 16777216)) ∧ denT ν (PL s 2) = some (.n (valZ (strOf S) (rPZ (strOf S) 2) 16777216)) ∧ denT ν (PL s 3) = some (.n (valZ (strOf S) (rPZ (strOf S) 3) 16777216)) :=
 ⟨(den_PL (by decide)).2 ⟨S, h, rfl⟩, (den_PL (by decide)).2 ⟨S, h, rfl⟩, (den_PL (by decide)).2 ⟨S, h, rfl⟩, (den_PL (by decide)).2 ⟨S, h, rfl⟩⟩
theorem lemGets_ok (s y : Tm) : LemOk (lemGets s y) := by
 unfold lemGets
 refine lemOk_cons (lem_of fun ν hs b hb => ?_) (lemOk_cons (lem_of fun ν hs b hb => ?_) (lemOk_cons (lem_of fun ν hs b hb => ?_) (lemOk_cons (lem_of fun ν hs b hb => ?_) lemOk_nil)))
 ·obtain ⟨S, e, v, xs, h1, h2, h3, h4⟩ := okS_of hs
  obtain ⟨x, z, k1, k2, _⟩ := so_leq hb
  obtain ⟨d, m, k3, k4, rfl⟩ := len_row k1
  rw [h2] at k3; injection k3 with k3; subst k3
  injection k4 with k4
  subst k4
  obtain ⟨_, _, h5, _⟩ := script_back h3
  have : (actsZ (.r e v xs)).length = xs.length := by show (List.map viewA xs).length = _; simp
  rw [h4] at this
  exact so_leqM k1 den_cc (by omega)
 ·obtain ⟨S, e, v, xs, h1, h2, h3, h4⟩ := okS_of hs
  refine so_ANYL.2 ⟨_, h2, ?_⟩
  rw [h4]
  exact not_long h3
 ·obtain ⟨g1, hs⟩ := hs
  obtain ⟨S, e, v, xs, h1, h2, h3, h4⟩ := okS_of hs
  obtain ⟨x, z, k1, k2, _⟩ := so_leq hb
  have k3 := (den_REST (ν := ν) (y := y) (i := .c 0)).2 ⟨_, _, h2, den_cc, rfl⟩
  refine so_leqM k3 den_cc ?_
  rw [h4]
  obtain ⟨h5, _⟩ := script_back h3
  have h6 : (encF (scriptActs (strOf S))).length ≤ (strOf S).length := by
   have h6 := congrArg List.length h5
   unfold scrB at h6
   simp only [List.length_append] at h6
   omega
  have h7 : ((strOf S).length : Int) ≤ 4000 := by
   obtain ⟨p, q, q1, q2, q3⟩ := so_gtr g1
   cases den_c q2
   have q3 := of_decide_eq_false q3
   obtain ⟨d, m, q4, q5, rfl⟩ := len_row q1
   rw [h1] at q4; injection q4 with q4; subst q4
   cases S <;> simp [strOf]
   injection q5 with q5
   omega
  show ((encF ((scriptActs (strOf S)).drop 0)).length : Int) ≤ 80000
  rw [List.drop_zero]
  omega
 ·obtain ⟨S, e, v, xs, h1, h2, h3, h4⟩ := okS_of hs
  obtain ⟨p0, p1, p2, p3⟩ := den_PLs h1
  have k := (den_MAYF (ν := ν)).2 ⟨_, _, _, _, _, p0, p1, p2, p3, h2, rfl⟩
  rw [h4] at k
  have e0 : mayZ [numOf (.n (valZ (strOf S) (rPZ (strOf S) 0) 16777216)), numOf (.n (valZ (strOf S) (rPZ (strOf S) 1) 16777216)), numOf (.n (valZ (strOf S) (rPZ (strOf S) 2) 16777216)), numOf (.n (valZ (strOf S) (rPZ (strOf S) 3) 16777216))] (scriptActs (strOf S)) = 0 := may_back h3
  rw [e0] at k
  exact so_cmp_mk (f := fun x y => !decide (x = y)) (fun _ _ => rfl) k den_cc rfl
theorem eqsP_den {a b : Tm} {c : Bool} (h : IsSo ν (EQS a b) c) : ∃ s r, denT ν a = some (.s s) ∧ denT ν b = some (.s r) ∧ (s == r) = c := by
 obtain ⟨n, h1, h2⟩ := h
 obtain ⟨s, r, k1, k2, k3⟩ := den_f4.1 h1
 exact ⟨s, r, k1, k2, so_b01 (h1.trans (by rw [k3])) ⟨n, h1, h2⟩⟩
theorem eqs_self {a b : Tm} {l : List UInt8} {c : Bool} (ha : denT ν a = some (.s l)) (hb : denT ν b = some (.s l)) (h : IsSo ν (EQS a b) c) : IsSo ν (EQS a b) true := by
 obtain ⟨s, r, h1, h2, h3⟩ := eqsP_den h
 rw [ha] at h1; injection h1 with h1; injection h1 with h1; subst h1
 rw [hb] at h2; injection h2 with h2; injection h2 with h2; subst h2
 rw [beq_self_eq_true] at h3
 subst h3
 exact h
theorem viewL_ok (d : Dat) : OkLn (viewL d) := by
 have h0 := wrap_rng .u8 (cellI d 0)
 have h1 := wrap_rng .u32 (cellI d 1)
 have h2 := wrap_rng .u8 (cellI d 2)
 have h3 := wrap_rng .u32 (cellI d 3)
 exact ⟨h0.1, h0.2, h1.1, h1.2, h2.1, h2.2, h3.1, h3.2, trivial⟩
theorem viewA_ok {d : Dat} (hl : longZ (viewA d) = false) (hf : farZ (viewA d) = false) : OkA (viewA d) := by
 have u8 := fun j => wrap_rng .u8 (cellI d j)
 have u32 := fun j => wrap_rng .u32 (cellI d j)
 have u64 := wrap_rng .u64 (cellI d 12)
 refine ⟨?_, ?_, fun x hx => ?_, ?_⟩
 ·have h2 : 0 ≤ IntKind.i64.wrap (cellI d 2) ∧ IntKind.i64.wrap (cellI d 2) ≤ 16777216 := by
   unfold farZ at hf
   have : small24 (atOf (viewA d)) = true := by
    cases h : small24 (atOf (viewA d)) with
    | true => rfl
    | false => rw [h] at hf; cases hf
   exact of_decide_eq_true this
  have b8 : ∀ j, IntKind.u8.wrap (cellI d j) ≤ 18446744073709551615 := fun j => Int.le_trans (u8 j).2 (by decide)
  have b32 : ∀ j, IntKind.u32.wrap (cellI d j) ≤ 18446744073709551615 := fun j => Int.le_trans (u32 j).2 (by decide)
  exact ⟨(u8 0).1, (u8 0).2, b8 0, (u8 1).1, (u8 1).2, b8 1, h2.1, h2.2, Int.le_trans h2.2 (by decide), (u8 3).1, (u8 3).2, b8 3, (u32 4).1, (u32 4).2, b32 4, (u8 5).1, (u8 5).2, (u32 6).1, (u32 6).2, (u8 7).1, (u8 7).2, (u32 8).1, (u32 8).2, (u32 9).1, (u32 9).2, b32 9, (u8 10).1, (u8 10).2, b8 10, (u8 11).1, (u8 11).2, b8 11, u64.1, u64.2, u64.2, (u8 13).1, (u8 13).2, (u32 14).1, (u32 14).2, (u8 15).1, (u8 15).2, (u32 16).1, (u32 16).2, (u32 17).1, (u32 17).2, b32 17, (u32 18).1, (u32 18).2, b32 18, (u32 19).1, (u32 19).2, b32 19, trivial⟩
 ·unfold longZ at hl
  have := of_decide_eq_false hl
  omega
 ·obtain ⟨e, _, rfl⟩ := List.mem_map.1 hx
  exact viewL_ok e
 ·exact ⟨(u8 21).1, (u8 21).2, (u32 22).1, (u32 22).2, trivial⟩
theorem may_zero {p : List Int} {vs : List ActV} (h : mayZ p vs = 0) : vs.length ≤ 4096 ∧ vs.any longZ = false ∧ p.all small24 = true ∧ vs.any farZ = false := by
 unfold mayZ at h
 split at h
 ·cases h
 ·rename_i h1
  split at h
  ·rename_i h2
   refine ⟨by omega, ?_, h2⟩
   cases hc : vs.any longZ with
   | false => rfl
   | true => exact absurd (.inr hc) h1
  ·cases h
theorem put_rd {a b c e : Int} {L : Dat} (h : mayZ [a, b, c, e] (actsZ L) = 0) : goodZ (scrB [a, b, c, e] (actsZ L)) = true ∧ scriptActs (scrB [a, b, c, e] (actsZ L)) = actsZ L ∧ plan4 (scrB [a, b, c, e] (actsZ L)) = [a, b, c, e] := by
 obtain ⟨h1, h2, h3, h4⟩ := may_zero h
 refine script_rd rfl h3 h1 fun v hv => ?_
 rw [List.any_eq_false] at h2 h4
 have a1 := h2 v hv
 have a2 := h4 v hv
 obtain ⟨d, _, rfl⟩ := List.mem_map.1 hv
 exact viewA_ok (Bool.eq_false_iff.2 a1) (Bool.eq_false_iff.2 a2)
theorem viewLs_len : ∀ xs : List Dat, ((xs.map viewL).flatMap fun x => x.flatMap NB).length ≤ 36 * (xs.map viewL).length
 | [] => by simp
 | x :: xs => by
  have a := flatNB_len (viewL x)
  have b := viewLs_len xs
  have c : (viewL x).length = 4 := rfl
  simp only [List.map_cons, List.flatMap_cons, List.length_append, List.length_cons] at b ⊢
  omega
theorem encA_len (d : Dat) : (encA (viewA d)).length ≤ 207 + 36 * (viewA d).2.1.length := by
 have h1 := flatNB_len (viewA d).1
 have h2 := NB_len (viewA d).2.1.length
 have h4 := viewLs_len (linesOf d)
 have h5 := flatNB_len (viewA d).2.2
 have e1 : (viewA d).1.length = 20 := rfl
 have e2 : (viewA d).2.2.length = 2 := rfl
 have e3 : (viewA d).2.1 = (linesOf d).map viewL := rfl
 unfold encA
 simp only [List.length_append]
 rw [← e3] at h4
 omega
theorem encF_len : ∀ xs : List Dat, (encF (xs.map viewA)).length ≤ 207 * xs.length + 36 * linesN (xs.map viewA)
 | [] => by simp [encF, linesN]
 | d :: xs => by
  have h1 := encA_len d
  have h2 := encF_len xs
  unfold encF linesN at h2 ⊢
  simp only [List.map_cons, List.flatMap_cons, List.length_append, List.length_cons, List.sum_cons] at h2 ⊢
  omega
theorem linesN_le {m : Nat} : ∀ {xs : List ActV}, (∀ v ∈ xs, v.2.1.length ≤ m) → linesN xs ≤ m * xs.length
 | [], _ => by simp [linesN]
 | v :: xs, h => by
  have h1 := h v (List.mem_cons_self ..)
  have h2 := linesN_le fun x hx => h x (List.mem_cons_of_mem _ hx)
  unfold linesN at h2 ⊢
  simp only [List.map_cons, List.sum_cons, List.length_cons, Nat.mul_add, Nat.mul_one] at h2 ⊢
  omega
theorem den_GSUM {l i : Tm} {d : Dat} : denT ν (GSUM l i) = some d ↔ ∃ L I, denT ν l = some L ∧ denT ν i = some I ∧ d = .n (linesN ((actsZ L).drop (numOf I).toNat)) := den_T2 rfl
theorem so_SZL {l : Tm} {b : Bool} : IsSo ν (SZL l).1 b ↔ ∃ L, denT ν l = some L ∧ decide (∀ v ∈ actsZ L, v.2.1.length ≤ 1000000000000000) = b := so_T1 (f := fun L => decide (∀ v ∈ actsZ L, v.2.1.length ≤ 1000000000000000)) rfl fun _ => rfl
theorem rst_small {l : Tm} {b : Bool} (hs : AllSo ν (gsH l)) (hb : IsSo ν (RST0 l).1 b) : IsSo ν (RST0 l).1 true := by
 obtain ⟨h1, h2, h3, h4, _⟩ := hs
 obtain ⟨e, v, xs, hx⟩ := isRow_of h4
 obtain ⟨L, g1, g2⟩ := so_SZL.1 h3
 rw [hx] at g1; injection g1 with g1; subst g1
 have g2 := of_decide_eq_true g2
 obtain ⟨p, q, q1, q2, q3⟩ := so_gtr h1
 cases den_c q2
 have q3 := of_decide_eq_false q3
 obtain ⟨d, m, q4, q5, rfl⟩ := len_row q1
 rw [hx] at q4; injection q4 with q4; subst q4
 injection q5 with q5
 subst q5
 obtain ⟨p, q, r1, r2, r3⟩ := so_gtr h2
 cases den_c r2
 have r3 := of_decide_eq_false r3
 obtain ⟨x, y, r4, r5, r6⟩ := den_bin.1 r1
 cases den_c r4
 have k := (den_GSUM (ν := ν) (l := l) (i := .c 0)).2 ⟨_, _, hx, den_cc, rfl⟩
 rw [r5] at k
 injection k with k
 injection k with k
 have k : y = (linesN (actsZ (.r e v xs)) : Int) := k
 have r6 : some (Dat.n (IntKind.i64.wrap (0 + y))) = some (Dat.n p) := r6
 injection r6 with r6
 injection r6 with r6
 have ha : (actsZ (.r e v xs)).length = xs.length := by show (List.map viewA xs).length = _; simp
 have hl := linesN_le g2
 rw [ha] at hl
 have hl2 : (linesN (actsZ (.r e v xs)) : Int) ≤ 100000000000000000 := by omega
 rw [wr64 (by omega) (by omega)] at r6
 have hn : linesN (actsZ (.r e v xs)) ≤ 300 := by omega
 have hf : (encF (actsZ (.r e v xs))).length ≤ 207 * xs.length + 36 * linesN (actsZ (.r e v xs)) := encF_len xs
 have k3 := (den_REST (ν := ν) (y := l) (i := .c 0)).2 ⟨_, _, hx, den_cc, rfl⟩
 refine so_leqM k3 den_cc ?_
 show ((encF ((actsZ (.r e v xs)).drop 0)).length : Int) ≤ 80000
 rw [List.drop_zero]
 omega
theorem okPs_of {a b c e l : Tm} (h : AllSo ν (okPs [a, b, c, e] l)) : ∃ A B C E L, denT ν a = some A ∧ denT ν b = some B ∧ denT ν c = some C ∧ denT ν e = some E ∧ denT ν l = some L ∧ mayZ [numOf A, numOf B, numOf C, numOf E] (actsZ L) = 0 := by
 obtain ⟨h1, h2, _⟩ := h
 obtain ⟨x, y, k1, k2, k3⟩ := so_neq h1
 cases den_c k2
 obtain ⟨A, B, C, E, L, g1, g2, g3, g4, g5, g6⟩ := den_MAYF.1 k1
 injection g6 with g6
 have k3 : decide (x = 0) = true := by
  cases hc : decide (x = 0) with
  | true => rfl
  | false => rw [hc] at k3; cases k3
 have k3 := of_decide_eq_true k3
 exact ⟨A, B, C, E, L, g1, g2, g3, g4, g5, by rw [← g6, k3]⟩
theorem lemPuts_ok (a b c e l y : Tm) : LemOk (lemPuts [a, b, c, e] l y) := by
 unfold lemPuts
 have hP : ∀ (j : Nat) (p : Tm), j ≤ 3 → ([a, b, c, e] : List Tm)[j]? = some p → LemIs ⟨okPs [a, b, c, e] l, .bin .eql .i64 (PL (SCR [a, b, c, e] l) j) p, true⟩ := fun j p hj hp => lem_of fun ν hs z hb => by
  obtain ⟨A, B, C, E, L, h1, h2, h3, h4, h5, h6⟩ := okPs_of hs
  obtain ⟨x, w, k1, k2, _⟩ := so_eql hb
  obtain ⟨S, k3, k4⟩ := (den_PL hj).1 k1
  obtain ⟨A', B', C', E', L', g1, g2, g3, g4, g5, rfl⟩ := den_SCR.1 k3
  rw [h1] at g1; injection g1 with g1; subst g1
  rw [h2] at g2; injection g2 with g2; subst g2
  rw [h3] at g3; injection g3 with g3; subst g3
  rw [h4] at g4; injection g4 with g4; subst g4
  rw [h5] at g5; injection g5 with g5; subst g5
  obtain ⟨_, _, m3⟩ := put_rd h6
  injection k4 with k4
  have m3 : [valZ (scrB [A', B', C', E'] (actsZ L)) (rPZ (scrB [A', B', C', E'] (actsZ L)) 0) 16777216, valZ (scrB [A', B', C', E'] (actsZ L)) (rPZ (scrB [A', B', C', E'] (actsZ L)) 1) 16777216, valZ (scrB [A', B', C', E'] (actsZ L)) (rPZ (scrB [A', B', C', E'] (actsZ L)) 2) 16777216, valZ (scrB [A', B', C', E'] (actsZ L)) (rPZ (scrB [A', B', C', E'] (actsZ L)) 3) 16777216] = [A', B', C', E'] := m3
  simp only [List.cons.injEq, and_true] at m3
  obtain ⟨m0, m1, m2, m3⟩ := m3
  refine so_cmp_mk (f := fun x y => decide (x = y)) (fun _ _ => rfl) k1 k2 (decide_eq_true ?_)
  obtain rfl | rfl | rfl | rfl : j = 0 ∨ j = 1 ∨ j = 2 ∨ j = 3 := by omega
  ·injection hp with hp; subst hp
   rw [h1] at k2; injection k2 with k2; injection k2 with k2
   rw [k4, ← k2]; exact m0
  ·injection hp with hp; subst hp
   rw [h2] at k2; injection k2 with k2; injection k2 with k2
   rw [k4, ← k2]; exact m1
  ·injection hp with hp; subst hp
   rw [h3] at k2; injection k2 with k2; injection k2 with k2
   rw [k4, ← k2]; exact m2
  ·injection hp with hp; subst hp
   rw [h4] at k2; injection k2 with k2; injection k2 with k2
   rw [k4, ← k2]; exact m3
 refine lemOk_cons (lem_of fun ν hs b hb => rst_small hs hb) (lemOk_cons (lem_of fun ν hs b hb => ?_) (lemOk_cons (lem_of fun ν hs b hb => ?_) (lemOk_cons (lem_of fun ν hs z hb => ?_) (lemOk_cons (lem_of fun ν hs z hb => ?_) (lemOk_cons (lem_of fun ν hs z hb => ?_) (lemOk_cons (hP 0 a (by decide) rfl) (lemOk_cons (hP 1 b (by decide) rfl) (lemOk_cons (hP 2 c (by decide) rfl) (lemOk_cons (hP 3 e (by decide) rfl) (lemOk_cons (lem_of fun ν hs z hb => ?_) lemOk_nil))))))))))
 ·obtain ⟨x, y, h1, h2, _⟩ := so_neq hb
  exact so_cmp_mk (f := fun x y => !decide (x = y)) (fun _ _ => rfl) h1 h1 (by simp)
 ·obtain ⟨S, h1, h2⟩ := so_STR.1 hb
  obtain ⟨A', B', C', E', L', g1, g2, g3, g4, g5, rfl⟩ := den_SCR.1 h1
  exact so_STR.2 ⟨_, h1, rfl⟩
 ·obtain ⟨A, B, C, E, L, h1, h2, h3, h4, h5, h6⟩ := okPs_of hs
  obtain ⟨S, k3, _⟩ := so_GOOD.1 hb
  refine so_GOOD.2 ⟨S, k3, ?_⟩
  obtain ⟨A', B', C', E', L', g1, g2, g3, g4, g5, rfl⟩ := den_SCR.1 k3
  rw [h1] at g1; injection g1 with g1; subst g1
  rw [h2] at g2; injection g2 with g2; subst g2
  rw [h3] at g3; injection g3 with g3; subst g3
  rw [h4] at g4; injection g4 with g4; subst g4
  rw [h5] at g5; injection g5 with g5; subst g5
  exact (put_rd h6).1
 ·obtain ⟨g, hs⟩ := hs
  obtain ⟨A, B, C, E, L, h1, h2, h3, h4, h5, h6⟩ := okPs_of hs
  obtain ⟨S, Y, k3, k4, k5⟩ := so_ISACTS.1 g
  obtain ⟨A', B', C', E', L', g1, g2, g3, g4, g5, rfl⟩ := den_SCR.1 k3
  rw [h1] at g1; injection g1 with g1; subst g1
  rw [h2] at g2; injection g2 with g2; subst g2
  rw [h3] at g3; injection g3 with g3; subst g3
  rw [h4] at g4; injection g4 with g4; subst g4
  rw [h5] at g5; injection g5 with g5; subst g5
  obtain ⟨m1, m2, _⟩ := put_rd h6
  have := (of_decide_eq_true k5 m1).2
  refine so_SAMEALL.2 ⟨_, _, k4, h5, decide_eq_true ?_⟩
  exact this.trans m2
 ·obtain ⟨A, B, C, E, L, h1, h2, h3, h4, h5, h6⟩ := okPs_of hs
  exact so_ANYL.2 ⟨L, h5, (may_zero h6).2.1⟩
 ·obtain ⟨s, r, k1, k2, k3⟩ := eqsP_den hb
  rw [k1] at k2; injection k2 with k2; injection k2 with k2; subst k2
  exact eqs_self k1 k1 hb
end
end Go.Proofs.YtcjbpaiomcfgnaaGreatDoor
namespace Go.Proofs.YtcjbpaiomcfgnaaGreatDoor
open Go
set_option maxRecDepth 20000
section
variable {ν : Nm}
theorem szl_of {t : Tm} (h : IsSo ν (sz t).1 true) : 0 ≤ nev ν (LEN t) ∧ nev ν (LEN t) ≤ 1000000000000000 := sz_of h
theorem ge0_of {i : Tm} (h : IsSo ν (ge0 i).1 true) : 0 ≤ nev ν i := by
 have := of_decide_eq_true (ev_geq.1 (so_ev h))
 rw [nev_c] at this
 exact this
theorem lt_ev {i t : Tm} {b : Bool} (h : IsSo ν (ltLen i t b).1 b) : decide (nev ν i < nev ν (LEN t)) = b := ev_lss.1 (so_ev h)
theorem le_ev {i t : Tm} (h : IsSo ν (leLen i t).1 true) : nev ν i ≤ nev ν (LEN t) := of_decide_eq_true (ev_leq.1 (so_ev h))
theorem nev_add1 {i : Tm} (h : 0 ≤ nev ν i) (h2 : nev ν i ≤ 1000000000000000) : nev ν (add1 i) = nev ν i + 1 := by
 show nev ν (.bin .add .i64 i (.c 1)) = _
 rw [nev_add, nev_c, wr64 (by omega) (by omega)]
theorem nev_left {t i : Tm} (h : 0 ≤ nev ν i) (h2 : nev ν i ≤ 1000000000000001) (h3 : 0 ≤ nev ν (LEN t)) (h4 : nev ν (LEN t) ≤ 1000000000000000) : nev ν (left t i) = nev ν (LEN t) - nev ν i := by
 show nev ν (.bin .sub .i64 (LEN t) i) = _
 rw [nev_sub, wr64 (by omega) (by omega)]
theorem lemN1_is (t i : Tm) : LemIs (lemN1 t i) := lem_ev fun ν hs => ev_leqT (by
 obtain ⟨h1, h2, h3, _⟩ := hs
 obtain ⟨l0, l1⟩ := szl_of h1
 have i0 := ge0_of h2
 have h3 := of_decide_eq_true (lt_ev h3)
 have e := nev_add1 i0 (by omega)
 rw [nev_left (by omega) (by omega) l0 l1, e, nev_c]
 omega)
theorem lemN2_is (t i : Tm) : LemIs (lemN2 t i) := lem_ev fun ν hs => ev_lssT (by
 obtain ⟨h1, h2, h3, h4, _⟩ := hs
 obtain ⟨l0, l1⟩ := szl_of h1
 have i0 := ge0_of h2
 have h3 := of_decide_eq_true (lt_ev h3)
 have h4 := of_decide_eq_true (ev_leq.1 (so_ev h4))
 have e := nev_add1 i0 (by omega)
 rw [nev_left i0 (by omega) l0 l1] at h4
 rw [nev_left (by omega) (by omega) l0 l1, e]
 omega)
theorem lemN0_is (t i : Tm) : LemIs (lemN0 t i) := lem_ev fun ν hs => ev_leqT (by
 obtain ⟨h1, h2, h3, _⟩ := hs
 obtain ⟨l0, l1⟩ := szl_of h1
 have i0 := ge0_of h2
 have h3 := le_ev h3
 rw [nev_left i0 (by omega) l0 l1, nev_c]
 omega)
theorem lemNI_is (t i : Tm) : LemIs (lemNI t i) := lem_ev fun ν hs => ev_leqT (by
 obtain ⟨h1, h2, h3, _⟩ := hs
 obtain ⟨l0, l1⟩ := szl_of h1
 have i0 := ge0_of h2
 have h3 := of_decide_eq_true (lt_ev h3)
 have e := nev_add1 i0 (by omega)
 rw [e]
 omega)
theorem len_list {x : Dat} {m : Nat} (h : lenDat x = some m) : (listOf x).length = m := by
 cases x <;> simp [lenDat, listOf] at h ⊢ <;> omega
theorem lines_cell {y x : Dat} (h : cellD y 20 = some x) : linesOf y = listOf x := by
 cases y with
 | l ds =>
  have h : ds[20]? = some x := h
  show (match ds[20]? with
   | some d => listOf d
   | none => []) = listOf x
  rw [h]
 | _ => cases h
theorem lns_of {l i : Tm} {d : Dat} (h : denT ν (lns l i) = some d) : ∃ e v xs m y, denT ν l = some (.r e v xs) ∧ denT ν i = some (.n m) ∧ 0 ≤ m ∧ xs[m.toNat]? = some y ∧ linesOf y = listOf d := by
 obtain ⟨e, v, xs, m, n, y, h1, h2, h3, h4, _, h5, h6⟩ := den_f1.1 h
 cases den_cn h3
 exact ⟨e, v, xs, m, y, h1, h2, h4, h5, lines_cell h6⟩
theorem lnsL_of {l i : Tm} {n : Int} (h : denT ν (LEN (lns l i)) = some (.n n)) : ∃ e v xs m y, denT ν l = some (.r e v xs) ∧ denT ν i = some (.n m) ∧ 0 ≤ m ∧ xs[m.toNat]? = some y ∧ ((viewA y).2.1.length : Int) = n := by
 obtain ⟨d, k, h1, h2, rfl⟩ := len_row h
 obtain ⟨e, v, xs, m, y, g1, g2, g3, g4, g5⟩ := lns_of h1
 refine ⟨e, v, xs, m, y, g1, g2, g3, g4, ?_⟩
 show ((((linesOf y).map viewL).length : Nat) : Int) = k
 rw [g5, List.length_map, len_list h2]
theorem cellI_of {y : Dat} {j : Nat} {n : Int} (h : cellD y j = some (.n n)) : cellI y j = n := by
 cases y with
 | l ds =>
  have h : ds[j]? = some (.n n) := h
  show (match ds[j]? with
   | some (.n n) => n
   | _ => 0) = n
  rw [h]
 | n k =>
  cases j with
  | zero =>
   injection h with h
   injection h
  | succ j => cases h
 | s _ =>
  cases j with
  | zero => injection h with h; cases h
  | succ j => cases h
 | r _ _ _ =>
  cases j with
  | zero => injection h with h; cases h
  | succ j => cases h
 | v _ =>
  cases j with
  | zero => injection h with h; cases h
  | succ j => cases h
theorem cell_of {l i : Tm} {j : Nat} {n : Int} (h : denT ν (CELL l i j) = some (.n n)) : ∃ e v xs m y, denT ν l = some (.r e v xs) ∧ denT ν i = some (.n m) ∧ 0 ≤ m ∧ xs[m.toNat]? = some y ∧ cellI y j = n := by
 obtain ⟨e, v, xs, m, k, y, h1, h2, h3, h4, _, h5, h6⟩ := den_f1.1 h
 cases den_cn h3
 exact ⟨e, v, xs, m, y, h1, h2, h4, h5, cellI_of h6⟩
theorem at_of {l i : Tm} {n : Int} (h : denT ν (atT l i) = some (.n n)) : ∃ e v xs m y, denT ν l = some (.r e v xs) ∧ denT ν i = some (.n m) ∧ 0 ≤ m ∧ xs[m.toNat]? = some y ∧ atOf (viewA y) = n := by
 obtain ⟨x, h1, h2⟩ := den_convn h
 obtain ⟨e, v, xs, m, y, g1, g2, g3, g4, g5⟩ := cell_of (j := 2) h1
 refine ⟨e, v, xs, m, y, g1, g2, g3, g4, ?_⟩
 show IntKind.i64.wrap (cellI y 2) = n
 rw [g5]
 exact h2.symm
theorem acts_r (e : TypeId) (v : Value) (xs : List Dat) : actsZ (.r e v xs) = xs.map viewA := rfl
theorem take_more {xs : List Dat} {m : Nat} {y : Dat} (h : xs[m]? = some y) : (xs.map viewA).take (m + 1) = (xs.map viewA).take m ++ [viewA y] := by
 rw [List.take_add_one, List.getElem?_map, h]
 rfl
theorem drop_more {xs : List Dat} {m : Nat} {y : Dat} (h : xs[m]? = some y) : (xs.map viewA).drop m = viewA y :: (xs.map viewA).drop (m + 1) := by
 have h1 := (List.getElem?_eq_some_iff.1 h)
 obtain ⟨h1, h2⟩ := h1
 rw [List.drop_eq_getElem_cons (by simpa using h1)]
 simp [h2]
theorem in_view {xs : List Dat} {m : Nat} {y : Dat} (h : xs[m]? = some y) : viewA y ∈ xs.map viewA := List.mem_map.2 ⟨y, List.mem_of_getElem? h, rfl⟩
theorem so_NOTL {l i : Tm} {b : Bool} : IsSo ν (NOTL l i) b ↔ ∃ L I, denT ν l = some L ∧ denT ν i = some I ∧ (!(((actsZ L).take (numOf I).toNat).any longZ)) = b := so_T2 (f := fun L I => !(((actsZ L).take (numOf I).toNat).any longZ)) rfl fun _ _ => rfl
theorem so_NOTT {l i : Tm} {b : Bool} : IsSo ν (NOTT l i) b ↔ ∃ L I, denT ν l = some L ∧ denT ν i = some I ∧ (!(((actsZ L).take (numOf I).toNat).any farZ)) = b := so_T2 (f := fun L I => !(((actsZ L).take (numOf I).toNat).any farZ)) rfl fun _ _ => rfl
theorem add1_of {l i : Tm} {m : Int} {I : Dat} (hs : IsSo ν (sz l).1 true) (hl : IsSo ν (ltLen i l true).1 true) (hi : denT ν i = some (.n m)) (h0 : 0 ≤ m) (h : denT ν (add1 i) = some I) : (numOf I).toNat = m.toNat + 1 := by
 obtain ⟨l0, l1⟩ := szl_of hs
 have hl := of_decide_eq_true (lt_ev hl)
 rw [nev_den hi] at hl
 obtain ⟨n, h, rfl⟩ : ∃ n, denT ν (add1 i) = some (.n n) ∧ I = .n n := by
  obtain ⟨x, y, k1, k2, k3⟩ := den_bin.1 h
  have k3 : some (Dat.n (IntKind.i64.wrap (x + y))) = some I := k3
  injection k3 with k3
  exact ⟨_, by rw [h, k3], k3.symm⟩
 have h3 : nev ν (add1 i) = nev ν i + 1 := nev_add1 (by rw [nev_den hi]; exact h0) (by rw [nev_den hi]; omega)
 rw [nev_den h, nev_den hi] at h3
 show n.toNat = _
 omega
theorem notS {p : ActV → Bool} {xs : List Dat} {m : Nat} {y : Dat} (h : xs[m]? = some y) (h1 : (!(((xs.map viewA).take m).any p)) = true) (h2 : p (viewA y) = false) : (!(((xs.map viewA).take (m + 1)).any p)) = true := by
 rw [take_more h, List.any_append]
 simp only [List.any_cons, List.any_nil, Bool.or_false, h2]
 exact h1
theorem small_of {n : Int} (h1 : ¬n < 0) (h2 : ¬n > 16777216) : small24 n = true := decide_eq_true ⟨by omega, by omega⟩
theorem far_of {v : ActV} {n : Int} (h : atOf v = n) : farZ v = !small24 n := by unfold farZ; rw [h]
theorem fineP_of {n : Tm} {N : Int} (hn : denT ν n = some (.n N)) (h1 : IsSo ν (lowT n false).1 false) (h2 : IsSo ν (highT n false).1 false) : small24 N = true := by
 have h1 := of_decide_eq_false (ev_lss.1 (so_ev h1))
 have h2 := of_decide_eq_false (ev_gtr.1 (so_ev h2))
 rw [nev_den hn, nev_c] at h1 h2
 exact small_of h1 h2
theorem fineR_of {n : Tm} {N : Int} (hn : denT ν n = some (.n N)) (h1 : IsSo ν (geT n true).1 true) (h2 : IsSo ν (leT n true).1 true) : small24 N = true := by
 have h1 := of_decide_eq_true (ev_geq.1 (so_ev h1))
 have h2 := of_decide_eq_true (ev_leq.1 (so_ev h2))
 rw [nev_den hn, nev_c] at h1 h2
 exact decide_eq_true ⟨h1, h2⟩
theorem low_bad {n : Tm} {N : Int} (hn : denT ν n = some (.n N)) (h1 : IsSo ν (lowT n true).1 true) : small24 N = false := by
 have h1 := of_decide_eq_true (ev_lss.1 (so_ev h1))
 rw [nev_den hn, nev_c] at h1
 exact decide_eq_false (by omega)
theorem high_bad {n : Tm} {N : Int} (hn : denT ν n = some (.n N)) (h1 : IsSo ν (highT n true).1 true) : small24 N = false := by
 have h1 := of_decide_eq_true (ev_gtr.1 (so_ev h1))
 rw [nev_den hn, nev_c] at h1
 exact decide_eq_false (by omega)
theorem ge_bad {n : Tm} {N : Int} (hn : denT ν n = some (.n N)) (h1 : IsSo ν (geT n false).1 false) : small24 N = false := by
 have h1 := of_decide_eq_false (ev_geq.1 (so_ev h1))
 rw [nev_den hn, nev_c] at h1
 exact decide_eq_false (by omega)
theorem le_bad {n : Tm} {N : Int} (hn : denT ν n = some (.n N)) (h1 : IsSo ν (leT n false).1 false) : small24 N = false := by
 have h1 := of_decide_eq_false (ev_leq.1 (so_ev h1))
 rw [nev_den hn, nev_c] at h1
 exact decide_eq_false (by omega)
theorem lemNot_ok (l i : Tm) : LemOk (lemNot l i) := by
 unfold lemNot
 refine lemOk_cons (lem_of fun ν hs b hb => ?_) (lemOk_cons (lem_of fun ν hs b hb => ?_) (lemOk_cons (lem_of fun ν hs b hb => ?_) (lemOk_cons (lem_of fun ν hs b hb => ?_) (lemOk_cons (lem_of fun ν hs b hb => ?_) lemOk_nil))))
 ·obtain ⟨L, I, h1, h2, _⟩ := so_NOTL.1 hb
  refine so_NOTL.2 ⟨L, I, h1, h2, ?_⟩
  cases den_cn h2
  rfl
 ·obtain ⟨L, I, h1, h2, _⟩ := so_NOTT.1 hb
  refine so_NOTT.2 ⟨L, I, h1, h2, ?_⟩
  cases den_cn h2
  rfl
 ·obtain ⟨g1, g2, g3, g4, g5, _⟩ := hs
  obtain ⟨L, I, h1, h2, _⟩ := so_NOTL.1 hb
  refine so_NOTL.2 ⟨L, I, h1, h2, ?_⟩
  obtain ⟨x, z, k1, k2, k3⟩ := so_gtr g2
  cases den_c k2
  have k3 := of_decide_eq_false k3
  obtain ⟨e, v, xs, m, y, q1, q2, q3, q4, q5⟩ := lnsL_of k1
  rw [q1] at h1; injection h1 with h1; subst h1
  rw [add1_of g5 g3 q2 q3 h2]
  obtain ⟨L', I', p1, p2, p3⟩ := so_NOTL.1 g1
  rw [q1] at p1; injection p1 with p1; subst p1
  rw [q2] at p2; injection p2 with p2; subst p2
  exact notS q4 p3 (decide_eq_false (by omega))
 ·obtain ⟨g1, g2, g3, g4, g5, g6, _⟩ := hs
  obtain ⟨L, I, h1, h2, _⟩ := so_NOTT.1 hb
  refine so_NOTT.2 ⟨L, I, h1, h2, ?_⟩
  obtain ⟨x, z, k1, k2, k3⟩ := so_lss g2
  obtain ⟨e, v, xs, m, y, q1, q2, q3, q4, q5⟩ := at_of k1
  rw [q1] at h1; injection h1 with h1; subst h1
  rw [add1_of g6 g4 q2 q3 h2]
  obtain ⟨L', I', p1, p2, p3⟩ := so_NOTT.1 g1
  rw [q1] at p1; injection p1 with p1; subst p1
  rw [q2] at p2; injection p2 with p2; subst p2
  exact notS q4 p3 (by rw [far_of q5, fineP_of k1 g2 g3]; rfl)
 ·obtain ⟨g1, g2, g3, g4, g5, g6, _⟩ := hs
  obtain ⟨L, I, h1, h2, _⟩ := so_NOTT.1 hb
  refine so_NOTT.2 ⟨L, I, h1, h2, ?_⟩
  obtain ⟨x, z, k1, k2, k3⟩ := so_geq g2
  obtain ⟨e, v, xs, m, y, q1, q2, q3, q4, q5⟩ := at_of k1
  rw [q1] at h1; injection h1 with h1; subst h1
  rw [add1_of g6 g4 q2 q3 h2]
  obtain ⟨L', I', p1, p2, p3⟩ := so_NOTT.1 g1
  rw [q1] at p1; injection p1 with p1; subst p1
  rw [q2] at p2; injection p2 with p2; subst p2
  exact notS q4 p3 (by rw [far_of q5, fineR_of k1 g2 g3]; rfl)
theorem lemDNot_ok (l i : Tm) : LemD (lemDNot l i) := by
 unfold lemDNot
 refine lemD_cons (fun ν hs => ?_) (lemD_cons (fun ν hs => ?_) (lemD_cons (fun ν hs => ?_) (lemD_cons (fun ν hs => ?_) (lemD_cons (fun ν hs => ?_) (lemD_cons (fun ν hs => ?_) (lemD_cons (fun ν hs => ?_) lemD_nil))))))
 ·obtain ⟨x, z, k1, k2, k3⟩ := so_gtr hs.1
  cases den_c k2
  have k3 := of_decide_eq_true k3
  obtain ⟨e, v, xs, m, y, q1, q2, q3, q4, q5⟩ := lnsL_of k1
  exact so_ANYL.2 ⟨_, q1, List.any_eq_true.2 ⟨_, in_view q4, decide_eq_true (by omega)⟩⟩
 ·obtain ⟨x, z, k1, k2, k3⟩ := so_lss hs.1
  obtain ⟨e, v, xs, m, y, q1, q2, q3, q4, q5⟩ := at_of k1
  exact so_ANYT.2 ⟨_, q1, List.any_eq_true.2 ⟨_, in_view q4, by rw [far_of q5, low_bad k1 hs.1]; rfl⟩⟩
 ·obtain ⟨x, z, k1, k2, k3⟩ := so_gtr hs.1
  obtain ⟨e, v, xs, m, y, q1, q2, q3, q4, q5⟩ := at_of k1
  exact so_ANYT.2 ⟨_, q1, List.any_eq_true.2 ⟨_, in_view q4, by rw [far_of q5, high_bad k1 hs.1]; rfl⟩⟩
 ·obtain ⟨x, z, k1, k2, k3⟩ := so_geq hs.1
  obtain ⟨e, v, xs, m, y, q1, q2, q3, q4, q5⟩ := at_of k1
  exact so_ANYT.2 ⟨_, q1, List.any_eq_true.2 ⟨_, in_view q4, by rw [far_of q5, ge_bad k1 hs.1]; rfl⟩⟩
 ·obtain ⟨x, z, k1, k2, k3⟩ := so_leq hs.1
  obtain ⟨e, v, xs, m, y, q1, q2, q3, q4, q5⟩ := at_of k1
  exact so_ANYT.2 ⟨_, q1, List.any_eq_true.2 ⟨_, in_view q4, by rw [far_of q5, le_bad k1 hs.1]; rfl⟩⟩
 ·obtain ⟨g1, g2, _⟩ := hs
  obtain ⟨L, I, p1, p2, p3⟩ := so_NOTL.1 g1
  refine so_ANYL.2 ⟨L, p1, ?_⟩
  have : (actsZ L).take (numOf I).toNat = actsZ L := by
   obtain ⟨x, y, k1, k2, k3⟩ := so_lss g2
   obtain ⟨d, m, q4, q5, rfl⟩ := len_row k2
   rw [p1] at q4; injection q4 with q4; subst q4
   rw [p2] at k1; injection k1 with k1; subst k1
   have k3 := of_decide_eq_false k3
   refine List.take_of_length_le ?_
   show ((listOf L).map viewA).length ≤ x.toNat
   rw [List.length_map, len_list q5]
   omega
  rw [this] at p3
  cases h : (actsZ L).any longZ with
  | false => rfl
  | true => rw [h] at p3; cases p3
 ·obtain ⟨g1, g2, _⟩ := hs
  obtain ⟨L, I, p1, p2, p3⟩ := so_NOTT.1 g1
  refine so_ANYT.2 ⟨L, p1, ?_⟩
  have : (actsZ L).take (numOf I).toNat = actsZ L := by
   obtain ⟨x, y, k1, k2, k3⟩ := so_lss g2
   obtain ⟨d, m, q4, q5, rfl⟩ := len_row k2
   rw [p1] at q4; injection q4 with q4; subst q4
   rw [p2] at k1; injection k1 with k1; subst k1
   have k3 := of_decide_eq_false k3
   refine List.take_of_length_le ?_
   show ((listOf L).map viewA).length ≤ x.toNat
   rw [List.length_map, len_list q5]
   omega
  rw [this] at p3
  cases h : (actsZ L).any farZ with
  | false => rfl
  | true => rw [h] at p3; cases p3
theorem anyEqs_is {t : Tm} (h : ∀ ν : Nm, ∀ d, denT ν t = some d → d = .n 0 ∨ d = .n 1) : ∀ e ∈ anyEqs t, TEqIs e := by
 intro e he
 unfold anyEqs at he
 simp only [List.mem_cons, List.mem_nil_iff, or_false] at he
 rcases he with rfl | rfl
 ·intro ν hs d hd
  obtain ⟨n, h1, h2⟩ := hs.1
  cases den_cn hd
  rcases h ν _ h1 with h | h <;> injection h with h <;> subst h
  ·cases h2
  ·exact h1
 ·intro ν hs d hd
  obtain ⟨n, h1, h2⟩ := hs.1
  cases den_cn hd
  rcases h ν _ h1 with h | h <;> injection h with h <;> subst h
  ·exact h1
  ·cases h2
theorem i01_two (b : Bool) : Dat.n (i01 b) = .n 0 ∨ Dat.n (i01 b) = .n 1 := by cases b <;> simp [i01]
theorem anyL_two (l : Tm) : ∀ ν : Nm, ∀ d, denT ν (ANYL l) = some d → d = .n 0 ∨ d = .n 1 := fun ν d hd => by
 obtain ⟨x, _, rfl⟩ := (den_T1 (o := 161) rfl).1 hd
 exact i01_two _
theorem anyT_two (l : Tm) : ∀ ν : Nm, ∀ d, denT ν (ANYT l) = some d → d = .n 0 ∨ d = .n 1 := fun ν d hd => by
 obtain ⟨x, _, rfl⟩ := (den_T1 (o := 162) rfl).1 hd
 exact i01_two _
theorem all_two (a b : Tm) : ∀ ν : Nm, ∀ d, denT ν (SAMEALL a b) = some d → d = .n 0 ∨ d = .n 1 := fun ν d hd => by
 obtain ⟨x, y, _, _, rfl⟩ := (den_T2 (o := 173) rfl).1 hd
 exact i01_two _
theorem geK_of {k : IntKind} {t : Tm} (h : IsSo ν (geK k t).1 (geK k t).2) : ∃ n, denT ν t = some (.n n) := by
 obtain ⟨x, y, h1, h2, _⟩ := so_geq h
 exact ⟨x, h1⟩
structure MayN (ν : Nm) (a b c d l : Tm) (A B C D : Int) (L : Dat) : Prop where
 a : denT ν a = some (.n A)
 b : denT ν b = some (.n B)
 c : denT ν c = some (.n C)
 d : denT ν d = some (.n D)
 l : denT ν l = some L
theorem mayN_of {a b c d l : Tm} (h : AllSo ν (isRow l :: defP [a, b, c, d])) : ∃ A B C D L, MayN ν a b c d l A B C D L := by
 obtain ⟨h0, h1, h2, h3, h4, _⟩ := h
 obtain ⟨e, v, xs, hx⟩ := isRow_of h0
 obtain ⟨A, ha⟩ := geK_of h1
 obtain ⟨B, hb⟩ := geK_of h2
 obtain ⟨C, hc⟩ := geK_of h3
 obtain ⟨D, hd⟩ := geK_of h4
 exact ⟨A, B, C, D, _, ha, hb, hc, hd, hx⟩
theorem mayN_eq {a b c d l : Tm} {A B C D : Int} {L d' : Dat} (h : MayN ν a b c d l A B C D L) {z : Int} (hz : mayZ [A, B, C, D] (actsZ L) = z) (hd : denT ν (.c z) = some d') : denT ν (MAYF [a, b, c, d] l) = some d' := by
 cases den_cn hd
 exact den_MAYF.2 ⟨_, _, _, _, _, h.a, h.b, h.c, h.d, h.l, by rw [← hz]; rfl⟩
theorem many_of {l : Tm} {L : Dat} {b : Bool} (hl : denT ν l = some L) (h : IsSo ν (many l b).1 b) : decide (4096 < (actsZ L).length) = b := by
 obtain ⟨x, y, k1, k2, k3⟩ := so_gtr h
 cases den_c k2
 obtain ⟨d, m, q4, q5, rfl⟩ := len_row k1
 rw [hl] at q4; injection q4 with q4; subst q4
 rw [← k3]
 refine decide_eq_decide.2 ?_
 show 4096 < ((listOf L).map viewA).length ↔ _
 rw [List.length_map, len_list q5]
 omega
theorem may3 {p : List Int} {vs : List ActV} (h : 4096 < vs.length ∨ vs.any longZ = true) : mayZ p vs = 3 := by
 unfold mayZ
 rw [if_pos h]
theorem may2 {p : List Int} {vs : List ActV} (h1 : decide (4096 < vs.length) = false) (h2 : vs.any longZ = false) (h3 : ¬(p.all small24 = true ∧ vs.any farZ = false)) : mayZ p vs = 2 := by
 unfold mayZ
 have h1 := of_decide_eq_false h1
 rw [if_neg (by rintro (h | h); exact h1 h; rw [h2] at h; cases h), if_neg h3]
theorem may0 {p : List Int} {vs : List ActV} (h1 : decide (4096 < vs.length) = false) (h2 : vs.any longZ = false) (h3 : p.all small24 = true ∧ vs.any farZ = false) : mayZ p vs = 0 := by
 unfold mayZ
 have h1 := of_decide_eq_false h1
 rw [if_neg (by rintro (h | h); exact h1 h; rw [h2] at h; cases h), if_pos h3]
theorem mayEq2 {a b c d l : Tm} {f : Tm × Bool} (hf : ∀ (ν : Nm) (A B C D : Int) (L : Dat), MayN ν a b c d l A B C D L → IsSo ν f.1 f.2 → ¬([A, B, C, D].all small24 = true ∧ (actsZ L).any farZ = false)) : TEqIs ⟨f :: (okPl l ++ (isRow l :: defP [a, b, c, d])), MAYF [a, b, c, d] l, .c 2⟩ := fun ν hs e he => by
 obtain ⟨h1, h2, h3, h4⟩ := hs
 obtain ⟨A, B, C, D, L, hm⟩ := mayN_of h4
 obtain ⟨L', g1, g2⟩ := so_ANYL.1 h3
 rw [hm.l] at g1; injection g1 with g1; subst g1
 exact mayN_eq hm (may2 (many_of hm.l h2) g2 (hf ν A B C D L hm h1)) he
theorem mayEq0 {a b c d l : Tm} {f : List (Tm × Bool)} (hf : ∀ (ν : Nm) (A B C D : Int) (L : Dat), MayN ν a b c d l A B C D L → AllSo ν f → [A, B, C, D].all small24 = true) : TEqIs ⟨(ANYT l, false) :: (f ++ (okPl l ++ (isRow l :: defP [a, b, c, d]))), MAYF [a, b, c, d] l, .c 0⟩ := fun ν hs e he => by
 obtain ⟨h1, hs⟩ := hs
 obtain ⟨hf2, h2, h3, h4⟩ := allSo_append.1 hs
 obtain ⟨A, B, C, D, L, hm⟩ := mayN_of h4
 obtain ⟨L', g1, g2⟩ := so_ANYL.1 h3
 rw [hm.l] at g1; injection g1 with g1; subst g1
 obtain ⟨L', g1, g3⟩ := so_ANYT.1 h1
 rw [hm.l] at g1; injection g1 with g1; subst g1
 exact mayN_eq hm (may0 (many_of hm.l h2) g2 ⟨hf ν A B C D L hm hf2, g3⟩) he
theorem badA {A B C D : Int} {q : Bool} (h : small24 A = false) : ¬([A, B, C, D].all small24 = true ∧ q = false) := by simp [h]
theorem badB {A B C D : Int} {q : Bool} (h : small24 B = false) : ¬([A, B, C, D].all small24 = true ∧ q = false) := by simp [h]
theorem badC {A B C D : Int} {q : Bool} (h : small24 C = false) : ¬([A, B, C, D].all small24 = true ∧ q = false) := by simp [h]
theorem badD {A B C D : Int} {q : Bool} (h : small24 D = false) : ¬([A, B, C, D].all small24 = true ∧ q = false) := by simp [h]
theorem mayEqs_is (a b c d l : Tm) : ∀ e ∈ mayEqs a b c d l, TEqIs e := by
 intro e he
 unfold mayEqs at he
 simp only [List.mem_cons, List.mem_nil_iff, or_false] at he
 rcases he with rfl | rfl | rfl | rfl | rfl | rfl | rfl | rfl | rfl | rfl | rfl | rfl | rfl | rfl | rfl | rfl | rfl | rfl | rfl | rfl | rfl
 ·intro ν hs d' hd
  obtain ⟨h1, h4⟩ := hs
  obtain ⟨A, B, C, D, L, hm⟩ := mayN_of h4
  exact mayN_eq hm (may3 (.inl (of_decide_eq_true (many_of hm.l h1)))) hd
 ·intro ν hs d' hd
  obtain ⟨h1, h2, h4⟩ := hs
  obtain ⟨A, B, C, D, L, hm⟩ := mayN_of h4
  obtain ⟨L', g1, g2⟩ := so_ANYL.1 h2
  rw [hm.l] at g1; injection g1 with g1; subst g1
  exact mayN_eq hm (may3 (.inr g2)) hd
 ·exact mayEq2 fun ν A B C D L h k => badA (low_bad h.a k)
 ·exact mayEq2 fun ν A B C D L h k => badA (high_bad h.a k)
 ·exact mayEq2 fun ν A B C D L h k => badB (low_bad h.b k)
 ·exact mayEq2 fun ν A B C D L h k => badB (high_bad h.b k)
 ·exact mayEq2 fun ν A B C D L h k => badC (low_bad h.c k)
 ·exact mayEq2 fun ν A B C D L h k => badC (high_bad h.c k)
 ·exact mayEq2 fun ν A B C D L h k => badD (low_bad h.d k)
 ·exact mayEq2 fun ν A B C D L h k => badD (high_bad h.d k)
 ·exact mayEq2 fun ν A B C D L h k => badA (ge_bad h.a k)
 ·exact mayEq2 fun ν A B C D L h k => badA (le_bad h.a k)
 ·exact mayEq2 fun ν A B C D L h k => badB (ge_bad h.b k)
 ·exact mayEq2 fun ν A B C D L h k => badB (le_bad h.b k)
 ·exact mayEq2 fun ν A B C D L h k => badC (ge_bad h.c k)
 ·exact mayEq2 fun ν A B C D L h k => badC (le_bad h.c k)
 ·exact mayEq2 fun ν A B C D L h k => badD (ge_bad h.d k)
 ·exact mayEq2 fun ν A B C D L h k => badD (le_bad h.d k)
 ·refine mayEq2 fun ν A B C D L h k => ?_
  obtain ⟨L', g1, g2⟩ := so_ANYT.1 k
  rw [h.l] at g1; injection g1 with g1; subst g1
  rw [g2]
  simp
 ·refine mayEq0 (f := fineP a ++ fineP b ++ fineP c ++ fineP d) fun ν A B C D L h k => ?_
  obtain ⟨k1, k2, k3, k4, k5, k6, k7, k8, _⟩ := k
  simp [fineP_of h.a k1 k2, fineP_of h.b k3 k4, fineP_of h.c k5 k6, fineP_of h.d k7 k8]
 ·refine mayEq0 (f := fineR a ++ fineR b ++ fineR c ++ fineR d) fun ν A B C D L h k => ?_
  obtain ⟨k1, k2, k3, k4, k5, k6, k7, k8, _⟩ := k
  simp [fineR_of h.a k1 k2, fineR_of h.b k3 k4, fineR_of h.c k5 k6, fineR_of h.d k7 k8]
end
end Go.Proofs.YtcjbpaiomcfgnaaGreatDoor
namespace Go.Proofs.YtcjbpaiomcfgnaaGreatDoor
open Go
set_option maxRecDepth 20000
section
variable {ν : Nm}
structure At (ν : Nm) (l i : Tm) (e : TypeId) (v : Value) (xs : List Dat) (m : Int) (y : Dat) : Prop where
 l : denT ν l = some (.r e v xs)
 i : denT ν i = some (.n m)
 z : 0 ≤ m
 y : xs[m.toNat]? = some y
theorem At.cell {l i : Tm} {e : TypeId} {v : Value} {xs : List Dat} {m : Int} {y : Dat} (h : At ν l i e v xs m y) {k : IntKind} {j : Nat} {d : Dat} (hd : denT ν (.conv k (CELL l i (.ofNat j))) = some d) : d = .n (k.wrap (cellI y j)) := by
 obtain ⟨x, h1, rfl⟩ := den_conv.1 hd
 obtain ⟨e', v', xs', m', y', g1, g2, g3, g4, g5⟩ := cell_of (j := j) h1
 rw [h.l] at g1; injection g1 with g1; injection g1 with _ _ g1; subst g1
 rw [h.i] at g2; injection g2 with g2; injection g2 with g2; subst g2
 rw [h.y] at g4; injection g4 with g4; subst g4
 rw [g5]
theorem At.lns {l i : Tm} {e : TypeId} {v : Value} {xs : List Dat} {m : Int} {y : Dat} (h : At ν l i e v xs m y) {d : Dat} (hd : denT ν (lns l i) = some d) : linesOf y = listOf d := by
 obtain ⟨e', v', xs', m', y', g1, g2, g3, g4, g5⟩ := lns_of hd
 rw [h.l] at g1; injection g1 with g1; injection g1 with _ _ g1; subst g1
 rw [h.i] at g2; injection g2 with g2; injection g2 with g2; subst g2
 rw [h.y] at g4; injection g4 with g4; subst g4
 exact g5
theorem at_cells {l i : Tm} {e : TypeId} {v : Value} {xs : List Dat} {m : Int} {y : Dat} (h : At ν l i e v xs m y) : ∀ {ks : List IntKind} {j : Nat} {R : List Tm} {ds : List Dat}, denTs ν (cellK l i j ks ++ R) = some ds → ∃ r, denTs ν R = some r ∧ ds = (wrapsZ y ks j).map Dat.n ++ r
 | [], _, _, ds, hd => ⟨ds, hd, rfl⟩
 | k :: ks, j, R, ds, hd => by
  obtain ⟨d, r, h1, h2, rfl⟩ := denTs_cons hd
  obtain ⟨r', h3, rfl⟩ := at_cells h h2
  refine ⟨r', h3, ?_⟩
  rw [h.cell h1]
  rfl
theorem linesB_vw (xs : List Dat) : linesB xs = (xs.map viewL).flatMap fun x => x.flatMap NB := by
 induction xs with
 | nil => rfl
 | cons x xs ih =>
  unfold linesB at ih ⊢
  rw [List.flatMap_cons, ih]
  rfl
theorem wrap_u32_u8 (n : Int) : IntKind.u32.wrap (IntKind.u8.wrap n) = IntKind.u8.wrap n := by
 have := wrap_rng .u8 n
 refine wrap_in (Int.le_trans (by decide) this.1) (Int.le_trans this.2 (by decide))
theorem actB_enc {y : Dat} {xs : List Dat} (h : linesOf y = xs) (hn : xs.length ≤ 300) : actB (wrapsZ y ksZ 0) xs [IntKind.u8.wrap (cellI y 21), IntKind.u32.wrap (cellI y 22)] = encA (viewA y) := by
 have e1 : preW (wrapsZ y ksZ 0) = wrapsZ y ksZ 0 := by
  show [_, _, _, IntKind.u32.wrap (IntKind.u8.wrap (cellI y 3)), _, _, _, _, _, _, IntKind.u32.wrap (IntKind.u8.wrap (cellI y 10)), IntKind.u32.wrap (IntKind.u8.wrap (cellI y 11)), _, _, _, _, _, _, _, _] = _
  rw [wrap_u32_u8, wrap_u32_u8, wrap_u32_u8]
  rfl
 have e2 : IntKind.u32.wrap (xs.length : Int) = xs.length := wrap_in (Int.le_trans (by decide) (Int.natCast_nonneg _)) (Int.le_trans (show (xs.length : Int) ≤ 300 by omega) (by decide))
 subst h
 unfold actB encA
 rw [e1, e2, linesB_vw]
 have e3 : (viewA y).2.1 = (linesOf y).map viewL := rfl
 rw [e3, List.length_map, List.append_assoc, List.append_assoc]
 rfl
theorem row20 {y D : Dat} {b1 b2 : Int} : progU 102 ((wrapsZ y ksZ 0).map Dat.n ++ [D, .n b1, .n b2]) = match D with
  | .r _ _ xs => if xs.length ≤ 300 ∧ (wrapsZ y ksZ 0).length = 20 ∧ [b1, b2].length = 2 then some (.s (actB (wrapsZ y ksZ 0) xs [b1, b2])) else none
  | _ => none := by
 cases D <;> rfl
theorem ACT_at {l i : Tm} {e : TypeId} {v : Value} {xs : List Dat} {m : Int} {y : Dat} (h : At ν l i e v xs m y) {d : Dat} (hd : denT ν (ACT (actX l i)) = some d) : d = .s (encA (viewA y)) := by
 obtain ⟨ds, h1, h2⟩ := (den_U (by omega)).1 hd
 obtain ⟨r, h3, rfl⟩ := at_cells h (ks := ksZ) (j := 0) h1
 obtain ⟨D, r1, h4, h5, rfl⟩ := denTs_cons h3
 obtain ⟨d1, r2, h6, h7, rfl⟩ := denTs_cons h5
 obtain ⟨d2, h8, rfl⟩ := denTs1.1 h7
 rw [h.cell (j := 21) h6, h.cell (j := 22) h8, row20] at h2
 have hl := h.lns h4
 cases D <;> try (cases h2; done)
 rename_i e' v' ys
 have h2 : flatU (if ys.length ≤ 300 ∧ (wrapsZ y ksZ 0).length = 20 ∧ [IntKind.u8.wrap (cellI y 21), IntKind.u32.wrap (cellI y 22)].length = 2 then some (.s (actB (wrapsZ y ksZ 0) ys [IntKind.u8.wrap (cellI y 21), IntKind.u32.wrap (cellI y 22)])) else none) = some d := h2
 split at h2
 ·rename_i hc
  injection h2 with h2
  have hl : linesOf y = ys := hl
  rw [← h2, actB_enc hl hc.1]
 ·cases h2
theorem ACT_some {l i : Tm} {d : Dat} (hd : denT ν (ACT (actX l i)) = some d) : ∃ e v xs m y, At ν l i e v xs m y := by
 obtain ⟨ds, h1, h2⟩ := (den_U (by omega)).1 hd
 obtain ⟨d0, r, h3, h4, rfl⟩ := denTs_cons h1
 obtain ⟨x, h5, rfl⟩ := den_conv.1 h3
 obtain ⟨e, v, xs, m, y, g1, g2, g3, g4, g5⟩ := cell_of (j := 0) h5
 exact ⟨e, v, xs, m, y, g1, g2, g3, g4⟩
theorem catS {a b : Tm} {d : Dat} {s : List UInt8} (h : denT ν (CAT a b) = some d) (hb : denT ν b = some (.s s)) : ∃ p, denT ν a = some (.s p) ∧ d = .s (p ++ s) := by
 rcases den_f2.1 h with ⟨x, y, h1, h2, h3⟩ | ⟨x, y, h1, h2, h3⟩
 ·rw [hb] at h2; injection h2 with h2; injection h2 with h2; subst h2
  exact ⟨x, h1, h3⟩
 ·rw [hb] at h2; injection h2 with h2; cases h2
theorem actAt_of {x l i : Tm} {d : Dat} (h : denT ν (actAt x l i) = some d) : ∃ p e v xs m y, denT ν x = some (.s p) ∧ At ν l i e v xs m y ∧ d = .s (p ++ encA (viewA y)) := by
 obtain ⟨b, hb⟩ : ∃ b, denT ν (ACT (actX l i)) = some b := by
  rcases den_f2.1 h with ⟨x, y, h1, h2, h3⟩ | ⟨x, y, h1, h2, h3⟩
  ·exact ⟨_, h2⟩
  ·exact ⟨_, h2⟩
 obtain ⟨e, v, xs, m, y, ha⟩ := ACT_some hb
 have := ACT_at ha hb
 subst this
 obtain ⟨p, h1, h2⟩ := catS h hb
 exact ⟨p, e, v, xs, m, y, h1, ha, h2⟩
theorem encF_more {xs : List Dat} {m : Nat} {y : Dat} (h : xs[m]? = some y) : encF ((xs.map viewA).drop m) = encA (viewA y) ++ encF ((xs.map viewA).drop (m + 1)) := by
 rw [drop_more h]
 unfold encF
 rw [List.flatMap_cons]
theorem den_rest {l i : Tm} {e : TypeId} {v : Value} {xs : List Dat} {m : Int} (hl : denT ν l = some (.r e v xs)) (hi : denT ν i = some (.n m)) : denT ν (REST l i) = some (.n ((encF ((xs.map viewA).drop m.toNat)).length : Int)) := den_REST.2 ⟨_, _, hl, hi, rfl⟩
theorem den_lenS {x : Tm} {p : List UInt8} (h : denT ν x = some (.s p)) : denT ν (LEN x) = some (.n (p.length : Int)) := den_f0.2 ⟨_, _, h, rfl, rfl⟩
theorem add1_den' {l i : Tm} {m : Int} {I : Dat} (hs : IsSo ν (sz l).1 true) (hl : IsSo ν (ltLen i l true).1 true) (hi : denT ν i = some (.n m)) (h0 : 0 ≤ m) (h : denT ν (add1 i) = some I) : ∃ n, I = .n n ∧ n.toNat = m.toNat + 1 ∧ n = m + 1 := by
 have h1 := add1_of hs hl hi h0 h
 obtain ⟨x, y, k1, k2, k3⟩ := den_bin.1 h
 have k3 : some (Dat.n (IntKind.i64.wrap (x + y))) = some I := k3
 injection k3 with k3
 obtain ⟨l0, l1⟩ := szl_of hs
 have hl := of_decide_eq_true (lt_ev hl)
 rw [nev_den hi] at hl
 cases den_c k2
 cases den_one hi k1
 rw [wr64 (by omega) (by omega)] at k3
 subst k3
 exact ⟨_, rfl, h1, rfl⟩
theorem rsm_of {x l i : Tm} {p : List UInt8} {e : TypeId} {v : Value} {xs : List Dat} {m : Int} (hx : denT ν x = some (.s p)) (hl : denT ν l = some (.r e v xs)) (hi : denT ν i = some (.n m)) (h : IsSo ν (RSM x l i).1 true) : IntKind.i64.wrap ((p.length : Int) + (encF ((xs.map viewA).drop m.toNat)).length) ≤ 90000 := by
 obtain ⟨a, b, h1, h2, h3⟩ := so_leq h
 cases den_c h2
 have h3 := of_decide_eq_true h3
 obtain ⟨c, d, k1, k2, k3⟩ := den_bin.1 h1
 have k3 : some (Dat.n (IntKind.i64.wrap (c + d))) = some (Dat.n a) := k3
 injection k3 with k3
 injection k3 with k3
 cases den_one (den_lenS hx) k1
 cases den_one (den_rest hl hi) k2
 rw [k3]
 exact h3
theorem so_rsm {x l i : Tm} {p : List UInt8} {e : TypeId} {v : Value} {xs : List Dat} {m : Int} (hx : denT ν x = some (.s p)) (hl : denT ν l = some (.r e v xs)) (hi : denT ν i = some (.n m)) (h : IntKind.i64.wrap ((p.length : Int) + (encF ((xs.map viewA).drop m.toNat)).length) ≤ 90000) : IsSo ν (RSM x l i).1 true :=
 so_leqM (x := IntKind.i64.wrap ((p.length : Int) + (encF ((xs.map viewA).drop m.toNat)).length)) (den_bin.2 ⟨_, _, den_lenS hx, den_rest hl hi, rfl⟩) den_cc h
theorem encF_le {xs : List Dat} (h : (xs.map viewA).any longZ = false) : ∀ k, (encF ((xs.map viewA).drop k)).length ≤ 783 * xs.length := by
 have key : ∀ ys : List Dat, (∀ y ∈ ys, (viewA y).2.1.length ≤ 16) → (encF (ys.map viewA)).length ≤ 783 * ys.length := by
  intro ys
  induction ys with
  | nil => intro _; simp [encF]
  | cons y ys ih =>
   intro hy
   have h1 := encA_len y
   have h2 := ih fun z hz => hy z (List.mem_cons_of_mem _ hz)
   have h3 := hy y (List.mem_cons_self ..)
   unfold encF at h2 ⊢
   simp only [List.map_cons, List.flatMap_cons, List.length_append, List.length_cons] at h2 ⊢
   omega
 intro k
 rw [← List.map_drop]
 have := key (xs.drop k) fun y hy => by
  rw [List.any_eq_false] at h
  have := h (viewA y) (List.mem_map.2 ⟨y, List.mem_of_mem_drop hy, rfl⟩)
  unfold longZ at this
  simp only [decide_eq_true_eq] at this
  omega
 have h2 : (xs.drop k).length ≤ xs.length := by simp
 omega
theorem lemPut2_ok (x l i : Tm) : LemOk (lemPut2 x l i) := by
 unfold lemPut2
 refine lemOk_cons (lem_of fun ν hs b hb => ?_) (lemOk_cons (lem_of fun ν hs b hb => ?_) (lemOk_cons (lem_of fun ν hs b hb => ?_) lemOk_nil))
 ·obtain ⟨g1, g2, g3, _⟩ := hs
  obtain ⟨a, c, h1, h2, _⟩ := so_leq hb
  refine so_leqM h1 den_cc ?_
  obtain ⟨e, v, xs, m, y, q1, q2, q3, q4, q5⟩ := lnsL_of h1
  obtain ⟨L, k1, k2⟩ := so_ANYL.1 g1
  rw [q1] at k1; injection k1 with k1; subst k1
  have k2 : (actsZ (.r e v xs)).any longZ = false := k2
  rw [List.any_eq_false] at k2
  have := k2 _ (in_view q4)
  unfold longZ at this
  simp only [decide_eq_true_eq] at this
  omega
 ·obtain ⟨g1, g2, g3, g4, _⟩ := hs
  obtain ⟨a, c, h1, h2, _⟩ := so_leq hb
  obtain ⟨n1, n2, k1, k2, _⟩ := den_bin.1 h1
  obtain ⟨d, m', k3, k4, _⟩ := len_row k1
  obtain ⟨p, e, v, xs, m, y, q1, q2, rfl⟩ := actAt_of k3
  obtain ⟨L, I, k5, k6, _⟩ := den_REST.1 k2
  obtain ⟨n, rfl, r1, _⟩ := add1_den' g4 g2 q2.i q2.z k6
  have h := rsm_of q1 q2.l q2.i g1
  refine so_rsm k3 q2.l k6 ?_
  rw [r1]
  rw [encF_more q2.y] at h
  simp only [List.length_append] at h ⊢
  have e1 : ((p.length + (encA (viewA y)).length : Nat) : Int) + ((encF ((xs.map viewA).drop (m.toNat + 1))).length : Int) = (p.length : Int) + (((encA (viewA y)).length + (encF ((xs.map viewA).drop (m.toNat + 1))).length : Nat) : Int) := by omega
  rw [e1]
  exact h
 ·obtain ⟨g1, g5, g6, g2, g3, g4, _⟩ := hs
  obtain ⟨a, c, h1, h2, _⟩ := so_leq hb
  obtain ⟨d, m', k3, k4, _⟩ := len_row h1
  obtain ⟨p, e, v, xs, m, y, q1, q2, rfl⟩ := actAt_of k3
  refine so_leqM (den_lenS k3) den_cc ?_
  have h := rsm_of q1 q2.l q2.i g1
  obtain ⟨L, k1, k2⟩ := so_ANYL.1 g6
  rw [q2.l] at k1; injection k1 with k1; subst k1
  have k2 : (xs.map viewA).any longZ = false := k2
  have hb : (encF ((xs.map viewA).drop m.toNat)).length ≤ 783 * xs.length := encF_le k2 m.toNat
  obtain ⟨l0, l1⟩ := szl_of g4
  rw [nev_LEN, ev_den q2.l] at l1
  have l1 : (xs.length : Int) ≤ 1000000000000000 := l1
  obtain ⟨a', c', j1, j2, j3⟩ := so_leq g5
  cases den_c j2
  cases den_one (den_lenS q1) j1
  have j3 := of_decide_eq_true j3
  rw [wr64 (by omega) (by omega), encF_more q2.y] at h
  simp only [List.length_append] at h ⊢
  omega
theorem denS_ENCF {l i : Tm} {e : TypeId} {v : Value} {xs : List Dat} {m : Int} (hl : denT ν l = some (.r e v xs)) (hi : denT ν i = some (.n m)) (h0 : 0 ≤ m) : denT ν (ENCF l i) = some (.s (encF ((xs.map viewA).drop m.toNat))) := by
 refine (den_U (by omega)).2 ⟨_, denTs_mk hl (denTs_mk hi rfl), ?_⟩
 show flatU (if 0 ≤ m then some (.s (encF ((actsZ (.r e v xs)).drop m.toNat))) else none) = _
 rw [if_pos h0]
 rfl
theorem cat_mk {a b : Tm} {s r : List UInt8} (ha : denT ν a = some (.s s)) (hb : denT ν b = some (.s r)) : denT ν (CAT a b) = some (.s (s ++ r)) := den_f2.2 (.inl ⟨s, r, ha, hb, rfl⟩)
theorem teqPut2_is (x l i : Tm) : ∀ e ∈ teqPut2 x l i, TEqIs e := by
 intro e he
 unfold teqPut2 at he
 simp only [List.mem_cons, List.mem_nil_iff, or_false] at he
 rcases he with rfl | rfl
 ·intro ν hs d hd
  obtain ⟨g1, g2, g3, g4, _⟩ := hs
  obtain ⟨p, e, v, xs, m, y, q1, q2, rfl⟩ := actAt_of hd
  have h := cat_mk q1 (denS_ENCF q2.l q2.i q2.z)
  rw [encF_more q2.y] at h
  obtain ⟨a, c, h1, h2, h3⟩ := so_lss g4
  obtain ⟨n, h4, r1, _⟩ := add1_den' g3 g1 q2.i q2.z h1
  injection h4 with h4
  obtain ⟨dd, m', k3, k4, rfl⟩ := len_row h2
  rw [q2.l] at k3; injection k3 with k3; subst k3
  injection k4 with k4
  have h3 := of_decide_eq_false h3
  have : (xs.map viewA).drop (m.toNat + 1) = [] := List.drop_eq_nil_of_le (by rw [List.length_map]; omega)
  rw [this] at h
  have e0 : encF [] = [] := rfl
  rw [e0, List.append_nil] at h
  exact h
 ·intro ν hs d hd
  obtain ⟨g1, g2, g3, _⟩ := hs
  obtain ⟨b, hb⟩ : ∃ b, denT ν (ENCF l (add1 i)) = some b := by
   rcases den_f2.1 hd with ⟨x, y, h1, h2, h3⟩ | ⟨x, y, h1, h2, h3⟩
   ·exact ⟨_, h2⟩
   ·exact ⟨_, h2⟩
  obtain ⟨w, hw⟩ : ∃ w, denT ν (actAt x l i) = some w := by
   rcases den_f2.1 hd with ⟨x, y, h1, h2, h3⟩ | ⟨x, y, h1, h2, h3⟩
   ·exact ⟨_, h1⟩
   ·exact ⟨_, h1⟩
  obtain ⟨p, e, v, xs, m, y, q1, q2, rfl⟩ := actAt_of hw
  obtain ⟨ds, h1, h2⟩ := (den_U (by omega)).1 hb
  obtain ⟨L, r, h3, h4, rfl⟩ := denTs_cons h1
  obtain ⟨I, h5, rfl⟩ := denTs1.1 h4
  obtain ⟨n, rfl, r1, r2⟩ := add1_den' g3 g1 q2.i q2.z h5
  have hz := q2.z
  have hb := denS_ENCF q2.l h5 (by omega)
  obtain ⟨s, j1, rfl⟩ := catS hd hb
  rw [hw] at j1; injection j1 with j1; injection j1 with j1; subst j1
  have h := cat_mk q1 (denS_ENCF q2.l q2.i q2.z)
  rw [encF_more q2.y] at h
  rw [r1, List.append_assoc]
  exact h
theorem wrap_id (k : IntKind) (n : Int) : k.wrap (k.wrap n) = k.wrap n := wrap_in (wrap_rng k n).1 (wrap_rng k n).2
theorem NB_u64 (n : Int) : NB (IntKind.u64.wrap n) = NB n := by
 unfold NB w64
 rw [wrap_id]
def hdrB (A B C D : Int) (n : Int) : List UInt8 := (((NB A ++ NB B) ++ NB C) ++ NB D) ++ NB n
theorem num_u64 {t : Tm} {n : Int} (h : denT ν t = some (.n n)) : denT ν (NUM (u64 t)) = some (.s (NB n)) := den_NUM.2 ⟨_, den_conv.2 ⟨n, h, rfl⟩, by rw [NB_u64]⟩
theorem num_of {t : Tm} {d : Dat} (h : denT ν (NUM (u64 t)) = some d) : ∃ n, denT ν t = some (.n n) ∧ d = .s (NB n) := by
 obtain ⟨x, h1, rfl⟩ := den_NUM.1 h
 obtain ⟨n, h2, h3⟩ := den_convn h1
 exact ⟨n, h2, by rw [h3, NB_u64]⟩
theorem cat_parts {a b : Tm} {d : Dat} (h : denT ν (CAT a b) = some d) : ∃ x y, denT ν a = some x ∧ denT ν b = some y := by
 rcases den_f2.1 h with ⟨x, y, h1, h2, h3⟩ | ⟨x, y, h1, h2, h3⟩
 ·exact ⟨_, _, h1, h2⟩
 ·exact ⟨_, _, h1, h2⟩
theorem hdr_mk {a b c e l : Tm} {A B C D n : Int} (ha : denT ν a = some (.n A)) (hb : denT ν b = some (.n B)) (hc : denT ν c = some (.n C)) (hd : denT ν e = some (.n D)) (hl : denT ν (LEN l) = some (.n n)) : denT ν (hdr [a, b, c, e] l) = some (.s (hdrB A B C D n)) :=
 cat_mk (cat_mk (cat_mk (cat_mk (num_u64 ha) (num_u64 hb)) (num_u64 hc)) (num_u64 hd)) (num_u64 hl)
theorem hdr_of {a b c e l : Tm} {d : Dat} (h : denT ν (hdr [a, b, c, e] l) = some d) : ∃ A B C D n, denT ν a = some (.n A) ∧ denT ν b = some (.n B) ∧ denT ν c = some (.n C) ∧ denT ν e = some (.n D) ∧ denT ν (LEN l) = some (.n n) ∧ d = .s (hdrB A B C D n) := by
 have h : denT ν (CAT (CAT (CAT (CAT (NUM (u64 a)) (NUM (u64 b))) (NUM (u64 c))) (NUM (u64 e))) (NUM (u64 (LEN l)))) = some d := h
 obtain ⟨x4, y4, h4, k4⟩ := cat_parts h
 obtain ⟨x3, y3, h3, k3⟩ := cat_parts h4
 obtain ⟨x2, y2, h2, k2⟩ := cat_parts h3
 obtain ⟨x1, y1, h1, k1⟩ := cat_parts h2
 obtain ⟨A, a1, _⟩ := num_of h1
 obtain ⟨B, b1, _⟩ := num_of k1
 obtain ⟨C, c1, _⟩ := num_of k2
 obtain ⟨D, d1, _⟩ := num_of k3
 obtain ⟨n, n1, _⟩ := num_of k4
 refine ⟨A, B, C, D, n, a1, b1, c1, d1, n1, ?_⟩
 have := hdr_mk a1 b1 c1 d1 n1
 have h : denT ν (hdr [a, b, c, e] l) = some d := h
 rw [this] at h
 injection h with h
 exact h.symm
theorem hdrB_len (A B C D n : Int) : (hdrB A B C D n).length ≤ 45 := by
 have h1 := NB_len A
 have h2 := NB_len B
 have h3 := NB_len C
 have h4 := NB_len D
 have h5 := NB_len n
 unfold hdrB
 simp only [List.length_append]
 omega
theorem scr_hdr (A B C D : Int) (vs : List ActV) : scrB [A, B, C, D] vs = hdrB A B C D vs.length ++ encF vs := by
 unfold scrB hdrB
 simp only [List.flatMap_cons, List.flatMap_nil, List.append_nil, List.append_assoc]
theorem rst0_of {l : Tm} {e : TypeId} {v : Value} {xs : List Dat} (hl : denT ν l = some (.r e v xs)) (h : IsSo ν (RST0 l).1 true) : (encF (xs.map viewA)).length ≤ 80000 := by
 obtain ⟨a, c, h1, h2, h3⟩ := so_leq h
 cases den_c h2
 have h3 := of_decide_eq_true h3
 have k := den_rest (i := .c 0) hl den_cc
 cases den_one k h1
 have h3 : ((encF ((xs.map viewA).drop 0)).length : Int) ≤ 80000 := h3
 rw [List.drop_zero] at h3
 omega
theorem lemScr_ok (a b c e l : Tm) : LemOk (lemScr [a, b, c, e] l) := by
 unfold lemScr
 refine lemOk_cons (lem_of fun ν hs z hb => ?_) (lemOk_cons (lem_of fun ν hs z hb => ?_) lemOk_nil)
 ·obtain ⟨x, y, k1, k2, k3⟩ := so_neq hs.1
  cases den_c k2
  obtain ⟨A, B, C, E, L, g1, g2, g3, g4, g5, g6⟩ := den_MAYF.1 k1
  injection g6 with g6
  have k3 : decide (x = 0) = true := by
   cases hc : decide (x = 0) with
   | true => rfl
   | false => rw [hc] at k3; cases k3
  have k3 := of_decide_eq_true k3
  exact so_ANYL.2 ⟨L, g5, (may_zero (by rw [← g6, k3])).2.1⟩
 ·obtain ⟨x, y, h1, h2, _⟩ := so_leq hb
  obtain ⟨n1, n2, k1, k2, _⟩ := den_bin.1 h1
  obtain ⟨d, m', k3, k4, _⟩ := len_row k1
  obtain ⟨A, B, C, D, n, a1, b1, c1, d1, n1', rfl⟩ := hdr_of k3
  obtain ⟨x', y', r1, r2, r3⟩ := so_leq hs.1
  cases den_c r2
  have r3 := of_decide_eq_true r3
  refine so_leqM (x := IntKind.i64.wrap ((hdrB A B C D n).length + x')) (den_bin.2 ⟨_, _, den_lenS k3, r1, rfl⟩) den_cc ?_
  have h5 := hdrB_len A B C D n
  obtain ⟨L, I, _, _, r4⟩ := den_REST.1 r1
  injection r4 with r4
  rw [wr64 (by omega) (by omega)]
  omega
theorem lemDScr_ok (a b c e l : Tm) : LemD (lemDScr [a, b, c, e] l) := by
 unfold lemDScr
 refine lemD_cons (fun ν hs => ?_) lemD_nil
 obtain ⟨h1, h2⟩ := hs
 obtain ⟨A, B, C, D, L, hm⟩ := mayN_of h2
 obtain ⟨e', v, xs, hx⟩ := isRow_of h2.1
 have hl := hm.l
 rw [hx] at hl; injection hl with hl; subst hl
 have k := (den_SCR (ν := ν)).2 ⟨A, B, C, D, _, hm.a, hm.b, hm.c, hm.d, hx, rfl⟩
 refine so_leqM (den_lenS k) den_cc ?_
 have h3 := rst0_of hx h1
 have h5 := hdrB_len A B C D (actsZ (.r e' v xs)).length
 rw [scr_hdr]
 have h6 : (encF (actsZ (.r e' v xs))).length ≤ 80000 := h3
 simp only [List.length_append]
 omega
theorem len_rw {l : Tm} {e : TypeId} {v : Value} {xs : List Dat} {n : Int} (hl : denT ν l = some (.r e v xs)) (h : denT ν (LEN l) = some (.n n)) : n = xs.length := by
 obtain ⟨d, m, q4, q5, rfl⟩ := len_row h
 rw [hl] at q4; injection q4 with q4; subst q4
 injection q5 with q5
 rw [q5]
theorem teqScr_is (a b c e l : Tm) : ∀ x ∈ teqScr [a, b, c, e] l, TEqIs x := by
 intro x hx
 unfold teqScr at hx
 simp only [List.mem_cons, List.mem_nil_iff, or_false] at hx
 rcases hx with rfl | rfl
 ·intro ν hs d hd
  obtain ⟨g1, g2, _⟩ := hs
  obtain ⟨e', v, xs, hx⟩ := isRow_of g2
  obtain ⟨A, B, C, D, n, a1, b1, c1, d1, n1, rfl⟩ := hdr_of hd
  have hn := len_rw hx n1
  subst hn
  obtain ⟨x', y', r1, r2, r3⟩ := so_lss g1
  cases den_c r1
  have r3 := of_decide_eq_false r3
  have hy := len_rw hx r2
  have h0 : xs = [] := List.length_eq_zero_iff.1 (by omega)
  subst h0
  refine den_SCR.2 ⟨A, B, C, D, _, a1, b1, c1, d1, hx, ?_⟩
  rw [scr_hdr]
  have e0 : encF (actsZ (.r e' v [])) = [] := rfl
  rw [e0, List.append_nil]
  rfl
 ·intro ν hs d hd
  obtain ⟨g1, g2, _⟩ := hs
  obtain ⟨e', v, xs, hx⟩ := isRow_of g2
  obtain ⟨w1, w2, hw, _⟩ := cat_parts hd
  obtain ⟨A, B, C, D, n, a1, b1, c1, d1, n1, rfl⟩ := hdr_of hw
  have hn := len_rw hx n1
  subst hn
  have k := denS_ENCF (i := .c 0) hx den_cc (by decide)
  have k2 := cat_mk hw k
  rw [k2] at hd
  injection hd with hd
  subst hd
  refine den_SCR.2 ⟨A, B, C, D, _, a1, b1, c1, d1, hx, ?_⟩
  rw [scr_hdr]
  have e1 : ((xs.map viewA).length : Int) = xs.length := by rw [List.length_map]
  show Dat.s (hdrB A B C D xs.length ++ encF ((xs.map viewA).drop 0)) = .s (hdrB A B C D (xs.map viewA).length ++ encF (xs.map viewA))
  rw [List.drop_zero, e1]
end
end Go.Proofs.YtcjbpaiomcfgnaaGreatDoor
namespace Go.Proofs.YtcjbpaiomcfgnaaGreatDoor
open Go
set_option maxRecDepth 20000
def catO : Option Dat → Option Dat → Option Dat
 | some (.s x), some (.s y) => some (.s (x ++ y))
 | some (.l x), some (.l y) => some (.l (x ++ y))
 | _, _ => none
theorem catO_assoc (a b c : Option Dat) : catO (catO a b) c = catO a (catO b c) := by
 rcases a with _ | a
 ·rfl
 rcases b with _ | b
 ·cases a <;> rfl
 rcases c with _ | c
 ·cases a <;> cases b <;> rfl
 cases a <;> cases b <;> cases c <;> simp [catO]
section
variable {ν : Nm}
theorem cat_catO (a b : Tm) : denT ν (.f 2 [a, b]) = catO (denT ν a) (denT ν b) := by
 cases h : denT ν (.f 2 [a, b]) with
 | some d =>
  rcases den_f2.1 h with ⟨x, y, h1, h2, h3⟩ | ⟨x, y, h1, h2, h3⟩
  ·rw [h1, h2, h3]; rfl
  ·rw [h1, h2, h3]; rfl
 | none =>
  cases k : catO (denT ν a) (denT ν b) with
  | none => rfl
  | some d =>
   exfalso
   have hc : ∃ d, denT ν (.f 2 [a, b]) = some d := by
    cases ha : denT ν a with
    | none => rw [ha] at k; cases k
    | some x =>
     cases hb : denT ν b with
     | none => rw [ha, hb] at k; cases x <;> cases k
     | some y =>
      rw [ha, hb] at k
      cases x <;> cases y <;> first | (cases k; done) | skip
      ·exact ⟨_, den_f2.2 (.inl ⟨_, _, ha, hb, rfl⟩)⟩
      ·exact ⟨_, den_f2.2 (.inr ⟨_, _, ha, hb, rfl⟩)⟩
   obtain ⟨d, hd⟩ := hc
   rw [h] at hd
   cases hd
theorem line4R_eq (t r i : Tm) : denT ν (line4R t r i) = denT ν (line4 t r i) := by
 show denT ν (.f 2 [.f 2 [t, .f 2 [NUM (u64 (lc r i 0)), NUM (u64 (lc r i 1))]], .f 2 [NUM (u64 (lc r i 2)), NUM (u64 (lc r i 3))]]) = denT ν (.f 2 [.f 2 [.f 2 [.f 2 [t, NUM (u64 (lc r i 0))], NUM (u64 (lc r i 1))], NUM (u64 (lc r i 2))], NUM (u64 (lc r i 3))])
 simp only [cat_catO, catO_assoc]
theorem lemLR_ok (t r i : Tm) : LemOk (lemLR t r i) := by
 refine lemOk_cons (lem_of fun ν hs b hb => ?_) lemOk_nil
 have e : denT ν (LEN (line4R t r i)) = denT ν (LEN (line4 t r i)) := by
  cases h : denT ν (LEN (line4 t r i)) with
  | some d =>
   obtain ⟨x, n, h1, h2, h3⟩ := den_f0.1 h
   exact den_f0.2 ⟨x, n, by rw [line4R_eq]; exact h1, h2, h3⟩
  | none =>
   cases k : denT ν (LEN (line4R t r i)) with
   | none => rfl
   | some d =>
    obtain ⟨x, n, h1, h2, h3⟩ := den_f0.1 k
    have : denT ν (LEN (line4 t r i)) = some d := den_f0.2 ⟨x, n, by rw [← line4R_eq]; exact h1, h2, h3⟩
    rw [h] at this
    cases this
 obtain ⟨x, y, h1, h2, h3⟩ := so_leq hb
 rw [e] at h1
 have hb' : IsSo ν (lim36 (line4 t r i) (add1 i)) b := so_cmp_mk (f := fun x y => decide (x ≤ y)) (fun _ _ => rfl) h1 h2 h3
 have h4 := lemS1_is (t := t) (r := r) (i := i) ν hs b hb'
 have h4 : b = true := h4
 subst h4
 exact hb
theorem teqLR_is (t r i : Tm) : ∀ e ∈ teqLR t r i, TEqIs e := by
 intro e he
 unfold teqLR at he
 simp only [List.mem_cons, List.mem_nil_iff, or_false] at he
 rcases he with rfl | rfl
 ·intro ν hs d hd
  rw [line4R_eq] at hd
  exact linesEq1_is (t := t) (r := r) (i := i) ν hs d hd
 ·intro ν hs d hd
  have hd : denT ν (.f 2 [line4 t r i, LINES r (add1 i)]) = some d := by
   rw [cat_catO, ← line4R_eq, ← cat_catO]
   exact hd
  exact linesEq2_is (t := t) (r := r) (i := i) ν hs d hd
theorem u32_same {t : Tm} (h1 : IsSo ν (geK .u8 t).1 (geK .u8 t).2) (h2 : IsSo ν (leK .u8 t).1 (leK .u8 t).2) : denT ν (NUM (u64 t)) = denT ν (NUM (u64 (u32 t))) := by
 obtain ⟨n, y, a1, a2, a3⟩ := so_geq h1
 obtain ⟨n', y', b1, b2, b3⟩ := so_leq h2
 cases den_one a1 b1
 cases den_c a2
 cases den_c b2
 have a3 := of_decide_eq_true a3
 have b3 := of_decide_eq_true b3
 have e : IntKind.u32.wrap n = n := wrap_in (Int.le_trans (by decide) a3) (Int.le_trans b3 (by decide))
 have k := num_u64 a1
 have k2 := num_u64 (t := u32 t) (den_conv.2 ⟨n, a1, rfl⟩)
 rw [e] at k2
 rw [k, k2]
theorem len_same {r : Tm} (h : IsSo ν (le300 r).1 true) : denT ν (NUM (u64 (LEN r))) = denT ν (NUM (u64 (u32 (LEN r)))) := by
 obtain ⟨n, y, a1, a2, a3⟩ := so_leq h
 cases den_c a2
 have a3 := of_decide_eq_true a3
 obtain ⟨x, m, h1, h2, h3⟩ := len_row a1
 have e : IntKind.u32.wrap n = n := wrap_in (Int.le_trans (by decide) (show 0 ≤ n by omega)) (Int.le_trans a3 (by decide))
 have k := num_u64 a1
 have k2 := num_u64 (t := u32 (LEN r)) (den_conv.2 ⟨n, a1, rfl⟩)
 rw [e] at k2
 rw [k, k2]
theorem actNest_f (b : Nat) (h3 : denT ν (NUM (u64 (.x (b + 3)))) = denT ν (NUM (u64 (u32 (.x (b + 3)))))) (h10 : denT ν (NUM (u64 (.x (b + 10)))) = denT ν (NUM (u64 (u32 (.x (b + 10)))))) (h11 : denT ν (NUM (u64 (.x (b + 11)))) = denT ν (NUM (u64 (u32 (.x (b + 11)))))) (hl : denT ν (NUM (u64 (LEN (.x (b + 20))))) = denT ν (NUM (u64 (u32 (LEN (.x (b + 20))))))) (z : Bool) : denT ν (actNest b z) = denT ν (putOut none b z) := by
 cases z <;> simp only [actNest, actPre, dotN, nm, putOut, actNums, dNums, catN0, catN, CAT, cat_catO, catO_assoc, h3, h10, h11, hl, Nat.add_zero]
theorem teqActP_is (b : Nat) : ∀ e ∈ teqActP b, TEqIs e := by
 have key : ∀ z, TEqIs (actPe b z) := fun z ν hs d hd => by
  obtain ⟨k1, k2, k3, k4, k5, k6, k7, k8, k9, _⟩ := hs
  have e := actNest_f b (u32_same k4 k5) (u32_same k6 k7) (u32_same k8 k9) (len_same k2) z
  have hd : denT ν (actNest b z) = some d := hd
  rw [e] at hd
  exact putEq_is (p := none) (b := b) (z := z) ν ⟨k1, k2, k3, trivial⟩ d hd
 intro e he
 unfold teqActP at he
 simp only [List.mem_cons, List.mem_nil_iff, or_false] at he
 rcases he with rfl | rfl
 ·exact key false
 ·exact key true
end
end Go.Proofs.YtcjbpaiomcfgnaaGreatDoor
namespace Go.Proofs.YtcjbpaiomcfgnaaGreatDoor
open Go
set_option maxRecDepth 20000
section
variable {ν : Nm}
theorem so_PRE2 {a b i : Tm} {c : Bool} : IsSo ν (PRE2 a b i) c ↔ ∃ A B I, denT ν a = some A ∧ denT ν b = some B ∧ denT ν i = some I ∧ decide ((actsZ A).take (numOf I).toNat = (actsZ B).take (numOf I).toNat) = c := so_T3 (f := fun A B I => decide ((actsZ A).take (numOf I).toNat = (actsZ B).take (numOf I).toNat)) rfl fun _ _ _ => rfl
theorem row17 {y D : Dat} {r : List Dat} : rowQ 17 (((wrapsZ y kindsR 3).map Dat.n ++ D :: r).take 18) = some (wrapsZ y kindsR 3, listOf D, []) := rfl
theorem row17b {y y' D D' : Dat} : rowQ 17 (((wrapsZ y kindsR 3).map Dat.n ++ D :: ((wrapsZ y' kindsR 3).map Dat.n ++ [D'])).drop 18) = some (wrapsZ y' kindsR 3, listOf D', []) := rfl
def sameReq (y y' : Dat) : Bool := decide (wrapsZ y kindsR 3 = wrapsZ y' kindsR 3) && decide ((linesOf y).map viewL = (linesOf y').map viewL) && decide (([] : List Int) = [])
theorem SAMEQ_at {a b i : Tm} {e : TypeId} {v : Value} {xs : List Dat} {m : Int} {y : Dat} {e' : TypeId} {v' : Value} {xs' : List Dat} {m' : Int} {y' : Dat} (h : At ν a i e v xs m y) (h' : At ν b i e' v' xs' m' y') {d : Dat} (hd : denT ν (SAMEQ (reqX a i ++ reqX b i)) = some d) : d = n01 (sameReq y y') := by
 obtain ⟨ds, h1, h2⟩ := (den_U (by omega)).1 hd
 have h1 : denTs ν (cellK a i 3 kindsR ++ (lns a i :: (cellK b i 3 kindsR ++ [lns b i]))) = some ds := h1
 obtain ⟨r, h3, rfl⟩ := at_cells h h1
 obtain ⟨D, r1, h4, h5, rfl⟩ := denTs_cons h3
 obtain ⟨r2, h6, rfl⟩ := at_cells h' h5
 obtain ⟨D', h7, rfl⟩ := denTs1.1 h6
 have h2 : flatU (some (n01 (sameQ 17 (((wrapsZ y kindsR 3).map Dat.n ++ D :: ((wrapsZ y' kindsR 3).map Dat.n ++ [D'])).take 18) (((wrapsZ y kindsR 3).map Dat.n ++ D :: ((wrapsZ y' kindsR 3).map Dat.n ++ [D'])).drop 18)))) = some d := h2
 unfold sameQ at h2
 rw [row17, row17b] at h2
 have e1 := h.lns h4
 have e2 := h'.lns h7
 have h2 : some (n01 (decide (wrapsZ y kindsR 3 = wrapsZ y' kindsR 3) && decide ((listOf D).map viewL = (listOf D').map viewL) && decide (([] : List Int) = []))) = some d := h2
 injection h2 with h2
 rw [← h2]
 unfold sameReq
 rw [e1, e2]
theorem At.cellN {l i : Tm} {e : TypeId} {v : Value} {xs : List Dat} {m : Int} {y : Dat} (h : At ν l i e v xs m y) {k : IntKind} {j : Nat} {n : Int} (hd : denT ν (xk l i k (.ofNat j)) = some (.n n)) : n = k.wrap (cellI y j) := by
 have := h.cell (k := k) (j := j) hd
 injection this
theorem view_same {y y' : Dat} : viewA y = viewA y' ↔ IntKind.u8.wrap (cellI y 0) = IntKind.u8.wrap (cellI y' 0) ∧ IntKind.u8.wrap (cellI y 1) = IntKind.u8.wrap (cellI y' 1) ∧ IntKind.i64.wrap (cellI y 2) = IntKind.i64.wrap (cellI y' 2) ∧ sameReq y y' = true ∧ IntKind.u8.wrap (cellI y 21) = IntKind.u8.wrap (cellI y' 21) ∧ IntKind.u32.wrap (cellI y 22) = IntKind.u32.wrap (cellI y' 22) := by
 have e : ∀ z : Dat, viewA z = ⟨IntKind.u8.wrap (cellI z 0) :: IntKind.u8.wrap (cellI z 1) :: IntKind.i64.wrap (cellI z 2) :: wrapsZ z kindsR 3, (linesOf z).map viewL, [IntKind.u8.wrap (cellI z 21), IntKind.u32.wrap (cellI z 22)]⟩ := fun _ => rfl
 rw [e, e]
 unfold sameReq
 simp only [Prod.mk.injEq, List.cons.injEq, and_true, Bool.and_eq_true, decide_eq_true_eq]
 constructor
 ·rintro ⟨⟨h0, h1, h2, h3⟩, h4, h5, h6⟩
  exact ⟨h0, h1, h2, ⟨h3, h4⟩, h5, h6⟩
 ·rintro ⟨h0, h1, h2, ⟨h3, h4⟩, h5, h6⟩
  exact ⟨⟨h0, h1, h2, h3⟩, h4, h5, h6⟩
theorem neK_of {a b i : Tm} {e : TypeId} {v : Value} {xs : List Dat} {m : Int} {y : Dat} {e' : TypeId} {v' : Value} {xs' : List Dat} {m' : Int} {y' : Dat} (h : At ν a i e v xs m y) (h' : At ν b i e' v' xs' m' y') {k : IntKind} {j : Nat} {c : Bool} (hc : IsSo ν (neK a b i k (.ofNat j)) c) : (!decide (k.wrap (cellI y j) = k.wrap (cellI y' j))) = c := by
 obtain ⟨x, z, h1, h2, h3⟩ := so_neq hc
 rw [← h.cellN h1, ← h'.cellN h2]
 exact h3
theorem neD_of {a b i : Tm} {e : TypeId} {v : Value} {xs : List Dat} {m : Int} {y : Dat} {e' : TypeId} {v' : Value} {xs' : List Dat} {m' : Int} {y' : Dat} (h : At ν a i e v xs m y) (h' : At ν b i e' v' xs' m' y') {c : Bool} (hc : IsSo ν (neD a b i) c) : (decide (IntKind.u8.wrap (cellI y 21) = IntKind.u8.wrap (cellI y' 21)) && decide (IntKind.u32.wrap (cellI y 22) = IntKind.u32.wrap (cellI y' 22))) = !c := by
 obtain ⟨p, q, h1, h2, h3⟩ := so_and (so_not hc)
 obtain ⟨x, z, k1, k2, k3⟩ := so_eql h1
 obtain ⟨u, w, g1, g2, g3⟩ := so_eql h2
 rw [h.cellN (j := 21) k1, h'.cellN (j := 21) k2] at k3
 rw [h.cellN (j := 22) g1, h'.cellN (j := 22) g2] at g3
 rw [k3, g3]
 exact h3
theorem xk_parts {l i : Tm} {k : IntKind} {j : Int} {n : Int} (h : denT ν (xk l i k j) = some (.n n)) : ∃ e v xs m y, At ν l i e v xs m y := by
 obtain ⟨x, h1, _⟩ := den_convn h
 obtain ⟨e, v, xs, m, n', y, h1, h2, h3, h4, _, h5, h6⟩ := den_f1.1 h1
 exact ⟨e, v, xs, m, y, h1, h2, h4, h5⟩
theorem neK_at {a b i : Tm} {k : IntKind} {j : Int} {c : Bool} (h : IsSo ν (neK a b i k j) c) : ∃ e v xs m y e' v' xs' y', At ν a i e v xs m y ∧ At ν b i e' v' xs' m y' := by
 obtain ⟨x, z, h1, h2, h3⟩ := so_neq h
 obtain ⟨e, v, xs, m, y, ha⟩ := xk_parts h1
 obtain ⟨e', v', xs', m', y', hb⟩ := xk_parts h2
 cases den_one ha.i hb.i
 exact ⟨e, v, xs, m, y, e', v', xs', y', ha, hb⟩
theorem neD_at {a b i : Tm} {c : Bool} (h : IsSo ν (neD a b i) c) : ∃ e v xs m y e' v' xs' y', At ν a i e v xs m y ∧ At ν b i e' v' xs' m y' := by
 obtain ⟨p, q, h1, h2, h3⟩ := so_and (so_not h)
 obtain ⟨x, z, k1, k2, k3⟩ := so_eql h1
 obtain ⟨e, v, xs, m, y, ha⟩ := xk_parts k1
 obtain ⟨e', v', xs', m', y', hb⟩ := xk_parts k2
 cases den_one ha.i hb.i
 exact ⟨e, v, xs, m, y, e', v', xs', y', ha, hb⟩
theorem SAMEQ_some {a b i : Tm} {c : Bool} (h : IsSo ν (SAMEQ (reqX a i ++ reqX b i)) c) : ∃ e v xs m y e' v' xs' y', At ν a i e v xs m y ∧ At ν b i e' v' xs' m y' ∧ sameReq y y' = c := by
 obtain ⟨n, h1, h2⟩ := h
 obtain ⟨ds, h3, _⟩ := (den_U (by omega)).1 h1
 have h3 : denTs ν (cellK a i 3 kindsR ++ (lns a i :: (cellK b i 3 kindsR ++ [lns b i]))) = some ds := h3
 obtain ⟨d, r, h4, h5, _⟩ := denTs_cons h3
 obtain ⟨x, h6, _⟩ := den_conv.1 h4
 obtain ⟨e, v, xs, m, y, g1, g2, g3, g4, _⟩ := cell_of (j := 3) h6
 have ha : At ν a i e v xs m y := ⟨g1, g2, g3, g4⟩
 obtain ⟨r', h7, _⟩ := at_cells ha h3
 obtain ⟨D, r1, h8, h9, _⟩ := denTs_cons h7
 obtain ⟨d', r2, k4, k5, _⟩ := denTs_cons h9
 obtain ⟨x', k6, _⟩ := den_conv.1 k4
 obtain ⟨e', v', xs', m', y', q1, q2, q3, q4, _⟩ := cell_of (j := 3) k6
 cases den_one g2 q2
 have hb : At ν b i e' v' xs' m y' := ⟨q1, q2, q3, q4⟩
 refine ⟨e, v, xs, m, y, e', v', xs', y', ha, hb, ?_⟩
 have := SAMEQ_at ha hb h1
 injection this with this
 rw [this] at h2
 rw [← h2]
 cases sameReq y y' <;> rfl
theorem nth_views {xs ys : List Dat} {m : Nat} {y y' : Dat} (hx : xs[m]? = some y) (hy : ys[m]? = some y') (h : xs.map viewA = ys.map viewA) : viewA y = viewA y' := by
 have h1 : (xs.map viewA)[m]? = some (viewA y) := by rw [List.getElem?_map, hx]; rfl
 have h2 : (ys.map viewA)[m]? = some (viewA y') := by rw [List.getElem?_map, hy]; rfl
 rw [h, h2] at h1
 injection h1 with h1
 exact h1.symm
theorem not_all {a b i : Tm} {e : TypeId} {v : Value} {xs : List Dat} {m : Int} {y : Dat} {e' : TypeId} {v' : Value} {xs' : List Dat} {y' : Dat} (h : At ν a i e v xs m y) (h' : At ν b i e' v' xs' m y') (hn : viewA y ≠ viewA y') : IsSo ν (SAMEALL a b) false :=
 so_SAMEALL.2 ⟨_, _, h.l, h'.l, decide_eq_false fun hc => hn (nth_views h.y h'.y hc)⟩
theorem neLenP_of {a b : Tm} {A B : Dat} (ha : denT ν a = some A) (hb : denT ν b = some B) {c : Bool} (h : IsSo ν (.bin .neq .i64 (LEN a) (LEN b)) c) : (!decide ((listOf A).length = (listOf B).length)) = c := by
 obtain ⟨x, y, h1, h2, h3⟩ := so_neq h
 obtain ⟨d, m, q4, q5, rfl⟩ := len_row h1
 rw [ha] at q4; injection q4 with q4; subst q4
 obtain ⟨d, m', q4, q6, rfl⟩ := len_row h2
 rw [hb] at q4; injection q4 with q4; subst q4
 rw [← h3, len_list q5, len_list q6]
 congr 1
 exact decide_eq_decide.2 (by omega)
theorem no_long {l i : Tm} {b : Bool} (g1 : IsSo ν (noL l).1 (noL l).2) (hb : IsSo ν (le300 (lns l i)).1 b) : IsSo ν (le300 (lns l i)).1 true := by
 obtain ⟨a, c, h1, h2, _⟩ := so_leq hb
 refine so_leqM h1 den_cc ?_
 obtain ⟨e, v, xs, m, y, q1, q2, q3, q4, q5⟩ := lnsL_of h1
 obtain ⟨L, k1, k2⟩ := so_ANYL.1 g1
 rw [q1] at k1; injection k1 with k1; subst k1
 have k2 : (actsZ (.r e v xs)).any longZ = false := k2
 rw [List.any_eq_false] at k2
 have := k2 _ (in_view q4)
 unfold longZ at this
 simp only [decide_eq_true_eq] at this
 omega
theorem lemSA_ok (a b i : Tm) : LemOk (lemSA a b i) := by
 unfold lemSA
 refine lemOk_cons (lem_of fun ν hs c hb => ?_) (lemOk_cons (lem_of fun ν hs c hb => ?_) (lemOk_cons (lem_of fun ν hs c hb => no_long hs.1 hb) (lemOk_cons (lem_of fun ν hs c hb => no_long hs.1 hb) (lemOk_cons (lem_ev fun ν hs => ev_lssT ?_) lemOk_nil))))
 ·obtain ⟨A, B, I, h1, h2, h3, _⟩ := so_PRE2.1 hb
  refine so_PRE2.2 ⟨A, B, I, h1, h2, h3, decide_eq_true ?_⟩
  cases den_cn h3
  rfl
 ·obtain ⟨g0, hs⟩ := hs
  obtain ⟨⟨s0, s1, s2, s3, s4, _⟩, p1, p2, p3, p4, _⟩ := allSo_append.1 hs
  obtain ⟨e, v, xs, m, y, e', v', xs', y', ha, hb', hq⟩ := SAMEQ_some s4
  have n0 := neK_of (j := 0) ha hb' s0
  have n1 := neK_of (j := 1) ha hb' s1
  have n2 := neK_of (j := 2) ha hb' s2
  have n3 := neD_of ha hb' s3
  have hv : viewA y = viewA y' := view_same.2 (by
   simp only [Bool.not_eq_false', decide_eq_true_eq] at n0 n1 n2
   simp only [Bool.and_eq_true, Bool.not_false, decide_eq_true_eq] at n3
   exact ⟨n0, n1, n2, hq, n3.1, n3.2⟩)
  obtain ⟨A, B, I, h1, h2, h3, _⟩ := so_PRE2.1 hb
  obtain ⟨A', B', I', k1, k2, k3, k4⟩ := so_PRE2.1 g0
  refine so_PRE2.2 ⟨A, B, I, h1, h2, h3, decide_eq_true ?_⟩
  rw [ha.l] at h1 k1; injection h1 with h1; injection k1 with k1; subst h1 k1
  rw [hb'.l] at h2 k2; injection h2 with h2; injection k2 with k2; subst h2 k2
  rw [ha.i] at k3; injection k3 with k3; subst k3
  rw [add1_of p4 p2 ha.i ha.z h3, acts_r, acts_r, take_more ha.y, take_more hb'.y, hv]
  have k4 : (xs.map viewA).take m.toNat = (xs'.map viewA).take m.toNat := of_decide_eq_true k4
  rw [k4]
 ·obtain ⟨h1, h2, _⟩ := hs
  have h1 := of_decide_eq_true (lt_ev h1)
  have h2 : (!decide (nev ν (LEN a) = nev ν (LEN b))) = false := ev_neq.1 (so_ev h2)
  simp only [Bool.not_eq_false', decide_eq_true_eq] at h2
  rw [← h2]
  exact h1
theorem lemDSA_ok (a b i : Tm) : LemD (lemDSA a b i) := by
 unfold lemDSA
 refine lemD_cons (fun ν hs => ?_) (lemD_cons (fun ν hs => ?_) (lemD_cons (fun ν hs => ?_) (lemD_cons (fun ν hs => ?_) (lemD_cons (fun ν hs => ?_) (lemD_cons (fun ν hs => ?_) lemD_nil)))))
 ·obtain ⟨e, v, xs, m, y, e', v', xs', y', ha, hb⟩ := neK_at hs.1
  have n0 := neK_of (j := 0) ha hb hs.1
  refine not_all ha hb fun hc => ?_
  have := (view_same.1 hc).1
  simp [this] at n0
 ·obtain ⟨e, v, xs, m, y, e', v', xs', y', ha, hb⟩ := neK_at hs.1
  have n0 := neK_of (j := 1) ha hb hs.1
  refine not_all ha hb fun hc => ?_
  have := (view_same.1 hc).2.1
  simp [this] at n0
 ·obtain ⟨e, v, xs, m, y, e', v', xs', y', ha, hb⟩ := neK_at hs.1
  have n0 := neK_of (j := 2) ha hb hs.1
  refine not_all ha hb fun hc => ?_
  have := (view_same.1 hc).2.2.1
  simp [this] at n0
 ·obtain ⟨e, v, xs, m, y, e', v', xs', y', ha, hb⟩ := neD_at hs.1
  have n0 := neD_of ha hb hs.1
  refine not_all ha hb fun hc => ?_
  have := view_same.1 hc
  simp [this.2.2.2.2.1, this.2.2.2.2.2] at n0
 ·obtain ⟨e, v, xs, m, y, e', v', xs', y', ha, hb, hq⟩ := SAMEQ_some hs.1
  refine not_all ha hb fun hc => ?_
  have := (view_same.1 hc).2.2.2.1
  rw [this] at hq
  cases hq
 ·obtain ⟨g1, g2, g3, g4, g5, _⟩ := hs
  obtain ⟨A, B, I, h1, h2, h3, h4⟩ := so_PRE2.1 g1
  refine so_SAMEALL.2 ⟨A, B, h1, h2, decide_eq_true ?_⟩
  have hl : (!decide ((listOf A).length = (listOf B).length)) = false := neLenP_of h1 h2 g4
  simp only [Bool.not_eq_false', decide_eq_true_eq] at hl
  obtain ⟨x, y, k1, k2, k3⟩ := so_lss g2
  obtain ⟨d, q, q4, q5, rfl⟩ := len_row k2
  rw [h1] at q4; injection q4 with q4; subst q4
  rw [h3] at k1; injection k1 with k1; subst k1
  have k3 := of_decide_eq_false k3
  have h4 := of_decide_eq_true h4
  have e1 : (actsZ A).length = (listOf A).length := by unfold actsZ; simp
  have e2 : (actsZ B).length = (listOf B).length := by unfold actsZ; simp
  have e3 := len_list q5
  rw [List.take_of_length_le (by show _ ≤ x.toNat; omega), List.take_of_length_le (by show _ ≤ x.toNat; omega)] at h4
  exact h4
theorem teqSA_is (a b : Tm) : ∀ e ∈ teqSA a b, TEqIs e := by
 intro e he
 unfold teqSA at he
 rcases List.mem_append.1 he with he | he
 ·exact anyEqs_is (all_two a b) e he
 ·simp only [List.mem_cons, List.mem_nil_iff, or_false] at he
  subst he
  intro ν hs d hd
  obtain ⟨g1, g2, g3, _⟩ := hs
  obtain ⟨e, v, xs, hx⟩ := isRow_of g2
  obtain ⟨e', v', ys, hy⟩ := isRow_of g3
  cases den_cn hd
  have hl : (!decide (xs.length = ys.length)) = true := neLenP_of hx hy g1
  simp only [Bool.not_eq_true', decide_eq_false_iff_not] at hl
  refine (den_T2 (o := 173) rfl).2 ⟨_, _, hx, hy, ?_⟩
  show Dat.n 0 = .n (i01 (decide (xs.map viewA = ys.map viewA)))
  have : xs.map viewA ≠ ys.map viewA := fun hc => hl (by
   have := congrArg List.length hc
   simpa using this)
  rw [decide_eq_false this]
  rfl
theorem i64_wrap (n : Int) : IntKind.i64.wrap n = if n % 18446744073709551616 ≥ 9223372036854775808 then n % 18446744073709551616 - 18446744073709551616 else n % 18446744073709551616 := by
 have : IntKind.i64.wrap n = if (true && decide (n % 18446744073709551616 ≥ 9223372036854775808)) = true then n % 18446744073709551616 - 18446744073709551616 else n % 18446744073709551616 := rfl
 rw [this]
 simp only [Bool.true_and, decide_eq_true_eq]
theorem wrap_add64 (a b : Int) : IntKind.i64.wrap (IntKind.i64.wrap a + b) = IntKind.i64.wrap (a + b) := by
 rw [i64_wrap a, i64_wrap (a + b)]
 split
 ·rw [i64_wrap]
  have : (a % 18446744073709551616 - 18446744073709551616 + b) % 18446744073709551616 = (a + b) % 18446744073709551616 := by omega
  rw [this]
 ·rw [i64_wrap]
  have : (a % 18446744073709551616 + b) % 18446744073709551616 = (a + b) % 18446744073709551616 := by omega
  rw [this]
theorem gsum_more {xs : List Dat} {m : Nat} {y : Dat} (h : xs[m]? = some y) : linesN ((xs.map viewA).drop m) = (viewA y).2.1.length + linesN ((xs.map viewA).drop (m + 1)) := by
 rw [drop_more h]
 rfl
theorem den_gsum {l i : Tm} {e : TypeId} {v : Value} {xs : List Dat} {m : Int} (hl : denT ν l = some (.r e v xs)) (hi : denT ν i = some (.n m)) : denT ν (GSUM l i) = some (.n (linesN ((xs.map viewA).drop m.toNat) : Int)) := den_GSUM.2 ⟨_, _, hl, hi, rfl⟩
theorem teqGr_is (n l i : Tm) : ∀ e ∈ teqGr n l i, TEqIs e := by
 intro e he
 unfold teqGr at he
 simp only [List.mem_cons, List.mem_nil_iff, or_false] at he
 rcases he with rfl | rfl
 ·intro ν hs d hd
  obtain ⟨⟨g1, g2, g3, _⟩, g4, g5, _⟩ := allSo_append.1 hs
  obtain ⟨x, y, k1, k2, k3⟩ := so_lss g1
  obtain ⟨L, q, q4, q5, rfl⟩ := len_row k2
  have k3 := of_decide_eq_false k3
  obtain ⟨z, w, a1, a2, a3⟩ := so_geq g4
  obtain ⟨z', w', b1, b2, b3⟩ := so_leq g5
  cases den_one a1 b1
  cases den_c a2
  cases den_c b2
  have a3 := of_decide_eq_true a3
  have b3 := of_decide_eq_true b3
  rw [a1] at hd
  injection hd with hd
  subst hd
  have k := (den_GSUM (ν := ν) (l := l) (i := i)).2 ⟨_, _, q4, k1, rfl⟩
  refine den_bin.2 ⟨_, _, a1, k, ?_⟩
  have e1 : (actsZ L).length = (listOf L).length := by unfold actsZ; simp
  have e3 := len_list q5
  have : (actsZ L).drop (numOf (.n x)).toNat = [] := List.drop_eq_nil_of_le (by show _ ≤ x.toNat; omega)
  rw [this]
  show some (Dat.n (IntKind.i64.wrap (z + 0))) = _
  rw [Int.add_zero, wrap_in a3 b3]
 ·intro ν hs d hd
  obtain ⟨g1, g2, g3, _⟩ := hs
  obtain ⟨u, w, h1, h2, h3⟩ := den_bin.1 hd
  obtain ⟨p, q, h4, h5, h6⟩ := den_bin.1 h1
  obtain ⟨e, v, xs, m, y, q1, q2, q3, q4, q5⟩ := lnsL_of h5
  obtain ⟨L, I, k1, k2, k3⟩ := den_GSUM.1 h2
  rw [q1] at k1; injection k1 with k1; subst k1
  rw [add1_of g3 g1 q2 q3 k2] at k3
  injection k3 with k3
  refine den_bin.2 ⟨_, _, h4, den_gsum q1 q2, ?_⟩
  rw [← h3, gsum_more q4]
  have h6 : some (Dat.n (IntKind.i64.wrap (p + q))) = some (Dat.n u) := h6
  injection h6 with h6
  injection h6 with h6
  show some (Dat.n (IntKind.i64.wrap (p + _))) = some (Dat.n (IntKind.i64.wrap (u + w)))
  rw [← h6, wrap_add64, k3, ← q5]
  congr 3
  rw [acts_r]
  omega
end
end Go.Proofs.YtcjbpaiomcfgnaaGreatDoor
