/- The evaluator, 22: maps.clone; a law that answers true. No program in sight. -/
import Derived.Test.YtcjbpaiomcfgnaaGreatDoorGe
import Derived.Laws.Externs
import GoSem.Extern.Table
import Derived.Test.YtcjbpaiomcfgnaaGreatDoorGa
import Derived.OpenShut
import Derived.LaidMore
import GoSem.ClaimJoined
import Derived.FnData
import Derived.MakeChecks
import Derived.ProofKit
import Derived.ChangeArms
set_option linter.unusedVariables false
set_option linter.unusedSimpArgs false
namespace Go.Proofs.YtcjbpaiomcfgnaaGreatDoor
open Go Go.RowKit
def PrimOkL (P : Program) (l : List (Nat × Nat × Nat)) : Prop :=
 ∀ g k t, primIn l g = some (k, t) → ∀ (w0 : World) (A : Anch) (ν : Nm) (s : St) (w : World) (args : List AV) (v : AV) (s' : St) (VS : List Value), primA P k t args s = some (v, s') → WRel P w0 A ν s w → denL ν args = some VS →
  Does P g VS.toArray w fun V w' => ∃ ν', Nm.le ν ν' ∧ WRel P w0 A ν' s' w' ∧ den ν' v = some V
theorem PrimOkL.of {P : Program} {prims : Pr} (h : PrimOkL P prims.l) : PrimOk P prims := h
theorem primOk_clone {P : Program} {f : Nat} {fn : Func} (hf : P.funcs[f]? = some fn) (hname : (fn.name == "runtime.NumGoroutine") = false) (hb : fn.body.isNone = true) (hn : Extern.findNext fn = none) (he : Extern.find fn = some Extern.MapsClone.clone) : PrimOkL P [(f, 1, 0)] := by
 intro g k t hp w0 A ν s w args v s' VS hpr hW hVS
 simp only [primIn] at hp
 split at hp
 ·rename_i hb'
  have := Nat.eq_of_beq_eq_true hb'
  subst this
  simp only [Option.some.injEq, Prod.mk.injEq] at hp
  obtain ⟨rfl, rfl⟩ := hp
  simp only [primA] at hpr
  split at hpr
  ·rename_i u i
   split at hpr
   ·rename_i es c hi
    simp only [Option.some.injEq, Prod.mk.injEq] at hpr
    obtain ⟨rfl, rfl⟩ := hpr
    obtain ⟨V, R, h1, h2, rfl⟩ := denL_cons hVS
    rw [denL_nil h2]
    simp only [den] at h1
    split at h1
    ·rename_i U hU
     injection h1 with h1
     subst h1
     obtain ⟨gm, hgm, hUm⟩ := map_den (ν := ν) (i := i) (V := U) (by simpa [den] using hU)
     subst hUm
     obtain ⟨arr, h3, h4⟩ := hW.rrel.map_ trivial hi hgm
     have hk := hW.top s.n (Nat.le_refl _)
     have hle := Nm.le_set hk w.heap.size
     refine .inl ⟨.iface u (.map (some w.heap.size)), w.alloc (.map arr c), ?_, ν.set s.n w.heap.size, hle, hW.alloc (n' := s.n + 1) hk (by omega) (by omega) ?_, ?_⟩
     ·rw [run_callFunc_extern hf hname hb hn he]
      have hg : (getObj gm).run P w = .ok (.map arr c) w := by simp [getObj, Sem.run, h3]
      have hc : (Extern.MapsClone.clone #[.iface u (.map (some gm))]).run P w = .ok (.iface u (.map (some w.heap.size))) (w.alloc (.map arr c)) := by
       show (Sem.bind (getObj gm) _).run P w = _
       rw [run_bind, hg]
       rfl
      show ((Extern.MapsClone.clone #[.iface u (.map (some gm))]).run P w).andThen _ = _
      rw [hc]
      rfl
     ·exact ⟨rfl, All2.imp (fun e m hm => ⟨den_mono hle _ _ hm.1, den_mono hle _ _ hm.2.1, hm.2.2⟩) h4⟩
     ·simp [den, Nm.set_same]
    ·cases h1
   ·cases hpr
  ·cases hpr
 ·cases hp
theorem primOk_noEscape {P : Program} {f : Nat} {fn : Func} (hf : P.funcs[f]? = some fn) (hname : (fn.name == "runtime.NumGoroutine") = false) (hb : fn.body.isNone = true) (hn : Extern.findNext fn = none) (he : Extern.find fn = some Extern.AbiNoEscape.same) : PrimOkL P [(f, 2, 0)] := by
 intro g k t hp w0 A ν s w args v s' VS hpr hW hVS
 simp only [primIn] at hp
 split at hp
 ·rename_i hb'
  have := Nat.eq_of_beq_eq_true hb'
  subst this
  simp only [Option.some.injEq, Prod.mk.injEq] at hp
  obtain ⟨rfl, rfl⟩ := hp
  simp only [primA] at hpr
  split at hpr
  ·rename_i x
   simp only [Option.some.injEq, Prod.mk.injEq] at hpr
   obtain ⟨rfl, rfl⟩ := hpr
   obtain ⟨V, R, h1, h2, rfl⟩ := denL_cons hVS
   rw [denL_nil h2]
   refine .inl ⟨V, w, ?_, ν, Nm.le.refl _, hW, h1⟩
   rw [run_callFunc_extern hf hname hb hn he]
   rfl
  ·cases hpr
 ·cases hp
theorem findByte_spec (s : ByteArray) (c : Nat) (hc : c < 256) : ∀ (l pre : List UInt8), s.data.toList = pre ++ l → findByte c l pre.length = match (List.range' pre.length l.length).find? (fun i => s[i]! == UInt8.ofNat c) with | some i => (i : Int) | none => -1
 | [], _, _ => rfl
 | b :: l, pre, h => by
  have hs : pre.length < s.size := by
   have : s.data.toList.length = s.size := Array.length_toList
   rw [← this, h]
   simp
  have hb : s[pre.length]! = b := by
   rw [getElem!_pos s pre.length hs]
   show s.data[pre.length] = b
   have : s.data.toList[pre.length]? = some b := by
    rw [h, List.getElem?_append_right (Nat.le_refl _), Nat.sub_self]
    rfl
   rw [Array.getElem?_toList] at this
   exact (Array.getElem?_eq_some_iff.1 this).2
  have hcb : (b == UInt8.ofNat c) = Nat.beq b.toNat c := by
   cases hq : Nat.beq b.toNat c with
   | true =>
    have := Nat.eq_of_beq_eq_true hq
    rw [← this, UInt8.ofNat_toNat]
    exact beq_self_eq_true b
   | false =>
    have := Nat.ne_of_beq_eq_false hq
    rw [beq_eq_false_iff_ne]
    intro e
    refine this ?_
    rw [e, UInt8.toNat_ofNat']
    exact Nat.mod_eq_of_lt hc
  rw [List.length_cons, List.range'_succ, List.find?_cons, hb, hcb]
  unfold findByte
  cases hq : Nat.beq b.toNat c with
  | true => rfl
  | false =>
   have := findByte_spec s c hc l (pre ++ [b]) (by rw [h, List.append_assoc]; rfl)
   simpa using this
theorem primOk_indexByte {P : Program} {f : Nat} {fn : Func} (hf : P.funcs[f]? = some fn) (hname : (fn.name == "runtime.NumGoroutine") = false) (hb : fn.body.isNone = true) (hn : Extern.findNext fn = none) (he : Extern.find fn = some Extern.BytealgIndexByte.indexByte) : PrimOkL P [(f, 5, 0)] := by
 intro g k t hp w0 A ν s w args v s' VS hpr hW hVS
 simp only [primIn] at hp
 split at hp
 ·rename_i hb'
  have := Nat.eq_of_beq_eq_true hb'
  subst this
  simp only [Option.some.injEq, Prod.mk.injEq] at hp
  obtain ⟨rfl, rfl⟩ := hp
  simp only [primA] at hpr
  split at hpr
  ·rename_i b c
   split at hpr
   ·rename_i hc
    have hc := Nat.le_of_ble_eq_true hc
    simp only [Option.some.injEq, Prod.mk.injEq] at hpr
    obtain ⟨rfl, rfl⟩ := hpr
    obtain ⟨V, R, h1, h2, rfl⟩ := denL_cons hVS
    obtain ⟨U, R', h3, h4, rfl⟩ := denL_cons h2
    rw [denL_nil h4]
    simp only [den, Option.some.injEq] at h1 h3
    subst h1 h3
    refine .inl ⟨.int .i64 (findByte c b 0), w, ?_, ν, Nm.le.refl _, hW, rfl⟩
    rw [run_callFunc_extern hf hname hb hn he]
    show ((Extern.BytealgIndexByte.indexByte #[.string ⟨b.toArray⟩, .int .u8 (.ofNat c)]).run P w).andThen _ = _
    rw [run_indexByte_string]
    have hfi : firstIdx ⟨b.toArray⟩ (Int.ofNat c).toNat.toUInt8 = findByte c b 0 := by
     have h := findByte_spec ⟨b.toArray⟩ c (by omega) b [] (by simp)
     simp only [List.length_nil] at h
     rw [h]
     unfold firstIdx
     have hsz : (ByteArray.mk b.toArray).size = b.length := by simp [ByteArray.size]
     rw [hsz, List.range_eq_range']
     rfl
    rw [hfi]
    rfl
   ·cases hpr
  ·cases hpr
 ·cases hp
theorem primOk_cons {P : Program} {f k t : Nat} {l : List (Nat × Nat × Nat)} (h : PrimOkL P [(f, k, t)]) (hl : PrimOkL P l) : PrimOkL P ((f, k, t) :: l) := by
 intro g k' t' hp
 simp only [primIn] at hp
 split at hp
 ·rename_i hb
  simp only [Option.some.injEq, Prod.mk.injEq] at hp
  obtain ⟨rfl, rfl⟩ := hp
  exact h g k t (by simp only [primIn, hb])
 ·exact hl g k' t' hp
theorem primOk_nil {P : Program} : PrimOkL P [] := fun g k t h => by cases h
def glOk : List (Nat × List AV) → Bool
 | [] => true
 | (_, l) :: r => (l.all fun v => closedV v || (match v with | .ext j => Nat.ble (j + 1) atoms0 | _ => false)) && glOk r
theorem glOk_spec {gl : List (Nat × List AV)} (h : glOk gl = true) : ∀ g l, (g, l) ∈ gl → ∀ v ∈ l, closedV v = true ∨ ∃ i, v = .ext i ∧ i < atoms0 := by
 induction gl with
 | nil => intro g l hm; cases hm
 | cons p r ih =>
  obtain ⟨k, m⟩ := p
  simp only [glOk, Bool.and_eq_true] at h
  intro g l hm v hv
  rcases List.mem_cons.1 hm with e | hm
  ·simp only [Prod.mk.injEq] at e
   obtain ⟨rfl, rfl⟩ := e
   have := List.all_eq_true.1 h.1 v hv
   rw [Bool.or_eq_true] at this
   rcases this with h | h
   ·exact .inl h
   ·split at h
    ·exact .inr ⟨_, rfl, Nat.le_of_ble_eq_true h⟩
    ·cases h
  ·exact ih h.2 g l hm v hv
def okPEntG (P : Program) (pr : Pr) (n : Nat) (e : PEnt) : Bool :=
 closedL e.args && closedV e.v && glOk e.gl && match eval P pr n (.call e.f e.args ⟨.e, 0, [], ⟨e.gl, []⟩⟩) with
 | some outs => outs.all fun o => eqV o.v e.v
 | none => false
def plainX (ξ : Nat → Option Dat) : Nat → Option Dat := fun i => match Nat.ble (i + 1) atoms0, ξ i with
 | true, some (.v v) => some (.v v)
 | _, _ => none
theorem plainX_top (ξ : Nat → Option Dat) : ∀ j, atoms0 ≤ j → plainX ξ j = none := fun j hj => by
 unfold plainX
 have : Nat.ble (j + 1) atoms0 = false := by
  cases h : Nat.ble (j + 1) atoms0 with
  | false => rfl
  | true => have := Nat.le_of_ble_eq_true h; omega
 rw [this]
theorem plainX_ok (ξ : Nat → Option Dat) (P : Program) (z : Nat → Option Obj) : ∀ i d, plainX ξ i = some d → DatOk P z d := fun i d h => by
 unfold plainX at h
 split at h
 ·injection h with h; subst h; trivial
 ·cases h
theorem plainX_ext {ν : Nm} {j : Nat} {V : Value} {f : Nat → Option Nat} {u : Int} {z : Nat → Option Obj} (hj : j < atoms0) (h : den ν (.ext j) = some V) : den ⟨f, plainX ν.x, u, z⟩ (.ext j) = some V := by
 simp only [den] at h ⊢
 split at h
 ·rename_i v hx
  show (match plainX ν.x j with
   | some (.v v) => if v.oneCell' = true then some v else none
   | _ => none) = some V
  unfold plainX
  rw [Nat.ble_eq_true_of_le hj, hx]
  exact h
 ·cases h
theorem okPEntG_cons {P : Program} {U : Int} (hm : P.follows .mixedOrders = true) (hN : okNames P = true) {pr : Pr} (hP : PrOk P U pr) {n : Nat} {e : PEnt} (h : okPEntG P pr n e = true) {ptab : List PEnt} (hPT : PTabOk P ptab) : PTabOk P (e :: ptab) := fun x hx => by
 rcases List.mem_cons.1 hx with rfl | hx
 ·unfold okPEntG at h
  simp only [Bool.and_eq_true] at h
  obtain ⟨⟨⟨h1, h2⟩, h3⟩, h4⟩ := h
  split at h4
  ·rename_i outs ho
   refine ⟨h1, h2, (eval_sound hm hN hP n _ _ ho).1, fun ν w VS hgl hVS => ?_⟩
   have hgl' : GlobOk ⟨fun _ => none, plainX ν.x, U, fun g => w.heap[g]?⟩ x.gl w := fun g m hm' i v hv => by
    obtain ⟨V, k1, k2⟩ := hgl g m hm' i v hv
    refine ⟨V, ?_, k2⟩
    rcases glOk_spec h3 g m hm' v (List.mem_of_getElem? hv) with hc | ⟨j, rfl, hj⟩
    ·rw [closed_den _ ν v hc]; exact k1
    ·exact plainX_ext hj k1
   refine (eval_calls hm hN hP ho (plainX ν.x) (plainX_top _) w (by rw [closed_denL _ ν _ h1]; exact hVS) ⟨hgl', fun t b hb => by cases hb⟩ (plainX_ok _ _ _)).mono fun r w' hr => ?_
   obtain ⟨hb, o, hoo, ν', V, _, k1, k2, _⟩ := hr
   refine ⟨hb, V, ?_, k2⟩
   rw [← eqV_eq (List.all_eq_true.1 h4 o hoo)]
   rw [closed_den ν ν' _ (by rw [eqV_eq (List.all_eq_true.1 h4 o hoo)]; exact h2)]
   exact k1
  ·cases h4
 ·exact hPT x hx
theorem ptab_nil {P : Program} : PTabOk P [] := fun x hx => by cases hx
def allTrue : Res → Bool
 | none => false
 | some l => l.all fun o => match o.v with
  | .bool b => b
  | _ => false
def stQ (gl : List (Nat × List AV)) (pc : List (Tm × Bool)) : St := ⟨.e, 0, [], ⟨gl, pc⟩⟩
theorem eval_trueQ {P : Program} {U : Int} (hm : P.follows .mixedOrders = true) (hN : okNames P = true) {prims : Pr} (hP : PrOk P U prims) {n f : Nat} {args : List AV} {VS : List Value} {gl : List (Nat × List AV)} {pc : List (Tm × Bool)} (h : allTrue (eval P prims n (.call f args (stQ gl pc))) = true)
  (ξ : Nat → Option Dat) (hξ : ∀ j, atoms0 ≤ j → ξ j = none) (w : World) (hVS : denL ⟨fun _ => none, ξ, U, fun g => w.heap[g]?⟩ args = some VS) (hgl : GlobOk ⟨fun _ => none, ξ, U, fun g => w.heap[g]?⟩ gl w) (hpc : ∀ t b, (t, b) ∈ pc → IsSo ⟨fun _ => none, ξ, U, fun g => w.heap[g]?⟩ t b) (hd : ∀ i d, ξ i = some d → DatOk P (fun g => w.heap[g]?) d) :
  Calls P f VS.toArray w fun e w' => e = .returned (.bool true) ∧ Below w.heap.size w w' := by
 unfold allTrue at h
 split at h
 ·cases h
 ·rename_i l hl
  refine (eval_calls hm hN hP hl ξ hξ w hVS ⟨hgl, hpc⟩ hd).mono fun e w' he => ?_
  obtain ⟨hb, o, ho, ν', V, _, h1, h2, _⟩ := he
  have := List.all_eq_true.1 h o ho
  split at this
  ·rename_i b hv
   subst this
   rw [hv] at h1
   simp only [den, Option.some.injEq] at h1
   subst h1
   exact ⟨h2, hb⟩
  ·cases this
end Go.Proofs.YtcjbpaiomcfgnaaGreatDoor
namespace Go.Proofs.YtcjbpaiomcfgnaaGreatDoor
open Go Go.RowKit
structure TEq where
 hs : List (Tm × Bool)
 a : Tm
 b : Tm
def TEqOk (E : List TEq) : Prop := ∀ e ∈ E, ∀ ν : Nm, (∀ t b, (t, b) ∈ e.hs → IsSo ν t b) → ∀ d, denT ν e.b = some d → denT ν e.a = some d
def LemD (lm : List Lem) : Prop := ∀ e ∈ lm, ∀ ν : Nm, (∀ t b, (t, b) ∈ e.hs → IsSo ν t b) → IsSo ν e.t e.b
section
variable (n0 n1 : Nat) (τ : Tr Tm)
mutual
def insT : Tm → Option Tm
 | .c n => some (.c n)
 | .x j => match Nat.ble (atoms0 + n0) j with
  | true => match Nat.ble (j + 1) (atoms0 + n1) with
   | true => τ.get j
   | false => none
  | false => some (.x j)
 | .bin o k a b => match insT a, insT b with
  | some a, some b => some (.bin o k a b)
  | _, _ => none
 | .conv k a => match insT a with
  | some a => some (.conv k a)
  | none => none
 | .f o l => match insTs l with
  | some l => some (.f o l)
  | none => none
def insTs : List Tm → Option (List Tm)
 | [] => some []
 | t :: l => match insT t, insTs l with
  | some t, some l => some (t :: l)
  | _, _ => none
end
end
def eqT1 (E : List TEq) (pc : List (Tm × Bool)) (t u : Tm) : Bool := eqTm t u || E.any fun e => eqTm e.a t && eqTm e.b u && hasAll pc e.hs
mutual
def eqTE (E : List TEq) (pc : List (Tm × Bool)) : Nat → Tm → Tm → Bool
 | 0, t, u => eqT1 E pc t u
 | n + 1, t, u => match eqT1 E pc t u with
  | true => true
  | false => match t, u with
   | .f o l, .f p m => Nat.beq o p && eqTEs E pc n l m
   | .conv k a, .conv j b => kindEq k j && eqTE E pc n a b
   | _, _ => false
def eqTEs (E : List TEq) (pc : List (Tm × Bool)) : Nat → List Tm → List Tm → Bool
 | _, [], [] => true
 | n, t :: l, u :: m => match eqTE E pc n t u with
  | true => eqTEs E pc n l m
  | false => false
 | _, _, _ => false
end
section
variable (σ : Nat → Option Nat) (q : Tm → Tm → Bool)
mutual
def okV : AV → AV → Bool
 | .bool a, .bool b => a == b
 | .int k a, .int k' b => kindEq k k' && intEq a b
 | .str a, .str b => bytesEq a b
 | .nptr, .nptr => true
 | .ptr i n, .ptr j m => isN σ i j && Nat.beq n m
 | .nslice, .nslice => true
 | .slice i n l c, .slice j m k d => isN σ i j && Nat.beq n m && Nat.beq l k && isCap σ c d
 | .nmap, .nmap => true
 | .map i, .map j => isN σ i j
 | .func f a b, .func g c d => isFn σ f g && okVs a c && okVs b d
 | .nfunc, .nfunc => true
 | .iface t v, .iface u w => Nat.beq t u && okV v w
 | .niface, .niface => true
 | .agg a, .agg b => okVs a b
 | .tup a, .tup b => okVs a b
 | .ext i, .ext j => Nat.beq i j && Nat.ble (i + 1) atoms0
 | .glob g n, .glob k m => Nat.beq g k && Nat.beq n m
 | .sym k t, .sym k' u => kindEq k k' && q t u
 | .sym k t, .int k' n => kindEq k k' && q t (.c n)
 | .symB t, .symB u => q t u
 | .symB t, .bool b => q t (.c (match b with | true => 1 | false => 0))
 | .symS t, .symS u => q t u
 | .symS t, .str l => q t (bytesTm l)
 | .deep e t, .deep f u => Nat.beq e f && q t u
 | .deep e t, .nslice => q t (.f 14 [.c (.ofNat e)])
 | .sslice i t c, .sslice j u d => isN σ i j && q t u && isCap σ c d
 | _, _ => false
def okVs : List AV → List AV → Bool
 | [], [] => true
 | a :: l, b :: m => match okV a b with
  | true => okVs l m
  | false => false
 | _, _ => false
end
def okEs : List (AV × AV × Nat) → List (AV × AV × Nat) → Bool
 | [], [] => true
 | p :: l, r :: m => match okV σ q p.1 r.1 && okV σ q p.2.1 r.2.1 && Nat.beq p.2.2 r.2.2 with
  | true => okEs l m
  | false => false
 | _, _ => false
def okO : AObj → AObj → Bool
 | .cells l t c, .cells m u d => Nat.beq t u && isON σ c d && okVs σ q l m
 | .map es c, .map fs d => Nat.beq c d && okEs σ q es fs
 | .iter m a l b, .iter m' a' l' b' => isON σ m m' && Nat.beq a a' && Nat.beq b b' && eqNs l l'
 | .defr, .defr => true
 | .row t e c, .row u f d => q t u && Nat.beq e f && isON σ c d
 | _, _ => false
end
def exEq : Ex → Ex → Bool
 | .norm, .norm => true
 | .ret, .ret => true
 | .exit i, .exit j => Nat.beq i j
 | .goto i, .goto j => Nat.beq i j
 | _, _ => false
def rootsG (n0 : Nat) (h : Tr AObj) : List (Nat × AObj) → Fit → Fit
 | [], φ => φ
 | (j, a) :: l, φ => rootsG n0 h l (match Nat.ble (j + 1) n0, h.get j with
  | true, some b => fitO a b φ
  | _, _ => φ)
def fitG (n0 : Nat) (o p : Out) : Fit := fitW p.s.h o.s.h 100000 (slotsFit o.T (treeL p.T 1 0 []) (fitV p.v o.v (rootsG n0 o.s.h (treeL p.s.h 1 0 []) ⟨.e, .e, .e, .e, []⟩)))
section
variable (E : List TEq) (lm : List Lem) (n0 : Nat)
def okQ (φ : Fit) (o p : Out) (t u : Tm) : Bool :=
 match insT n0 p.s.n φ.x t with
 | some t' => eqTE E o.s.x.pc 3 t' u
 | none => false
def okJG (φ : Fit) (o p : Out) (j : Nat) (ob : AObj) : Bool :=
 match sgN n0 p.s.n φ.f j with
 | some i => (match o.s.h.get i with
  | some ob2 => okO (sgN n0 p.s.n φ.f) (okQ E n0 φ o p) ob ob2
  | none => false) && (match Nat.ble (j + 1) n0 with
  | true => true
  | false => (Nat.ble n0 i || (p.s.h.get i).isNone) && (match φ.b.get i with
   | some k => Nat.beq k j
   | none => false))
 | none => false
def okPc (φ : Fit) (o p : Out) : List (Tm × Bool) → Bool
 | [] => true
 | (t, b) :: l => (match insT n0 p.s.n φ.x t with
  | some u => (match knownT u o.s.x.pc with
   | some c => c == b
   | none => false) || lm.any fun e => eqTm e.t u && (e.b == b) && hasAll o.s.x.pc e.hs
  | none => false) && okPc φ o p l
def okSl (φ : Fit) (o p : Out) : List (Nat × AV) → Bool
 | [] => true
 | (i, u) :: l => (match o.T.get i with
  | some v => okV (sgN n0 p.s.n φ.f) (okQ E n0 φ o p) u v
  | none => false) && okSl φ o p l
def covG (o p : Out) : Bool :=
 let φ := fitG n0 o p
 exEq p.e o.e && p.M.isEmpty && o.M.isEmpty && Nat.ble n0 p.s.n && eqGl o.s.x.gl p.s.x.gl && (o.s.log.all fun x => Nat.ble n0 x || p.s.log.any (Nat.beq x)) &&
  okV (sgN n0 p.s.n φ.f) (okQ E n0 φ o p) p.v o.v && okSl E n0 φ o p (treeL p.T 1 0 []) && allT (okJG E n0 φ o p) p.s.h 1 0 && (allT (fun i _ => match Nat.ble (i + 1) n0 with
  | true => (p.s.h.get i).isSome || p.s.log.any (Nat.beq i)
  | false => true) o.s.h 1 0) && okPc lm n0 φ o p p.s.x.pc
end
section
variable {n0 n1 : Nat} {τ : Tr Tm} {ν νp : Nm}
mutual
theorem insT_den (hx : ∀ j u, insT n0 n1 τ (.x j) = some u → ∀ d, denT ν u = some d → νp.x j = some d) (hu : νp.u = ν.u) : ∀ {t u : Tm} {d : Dat}, insT n0 n1 τ t = some u → denT ν u = some d → denT νp t = some d
 | .c n, u, d, h, hd => by
  simp only [insT, Option.some.injEq] at h
  subst h
  exact hd
 | .x j, u, d, h, hd => hx j u h d hd
 | .bin o k a b, u, d, h, hd => by
  simp only [insT] at h
  split at h
  ·rename_i a' b' ha hb
   injection h with h
   subst h
   obtain ⟨x, y, h1, h2, h3⟩ := den_bin.1 hd
   exact den_bin.2 ⟨x, y, insT_den hx hu ha h1, insT_den hx hu hb h2, h3⟩
  ·cases h
 | .conv k a, u, d, h, hd => by
  simp only [insT] at h
  split at h
  ·rename_i a' ha
   injection h with h
   subst h
   obtain ⟨x, h1, h2⟩ := den_conv.1 hd
   exact den_conv.2 ⟨x, insT_den hx hu ha h1, h2⟩
  ·cases h
 | .f o l, u, d, h, hd => by
  simp only [insT] at h
  split at h
  ·rename_i l' hl
   injection h with h
   subst h
   simp only [denT] at hd ⊢
   cases h1 : denTs ν l' with
   | none => rw [h1] at hd; cases hd
   | some ds => rw [h1] at hd; rw [insTs_den hx hu hl h1, hu]; exact hd
  ·cases h
theorem insTs_den (hx : ∀ j u, insT n0 n1 τ (.x j) = some u → ∀ d, denT ν u = some d → νp.x j = some d) (hu : νp.u = ν.u) : ∀ {t u : List Tm} {d : List Dat}, insTs n0 n1 τ t = some u → denTs ν u = some d → denTs νp t = some d
 | [], u, d, h, hd => by
  simp only [insTs, Option.some.injEq] at h
  subst h
  exact hd
 | t :: l, u, d, h, hd => by
  simp only [insTs] at h
  split at h
  ·rename_i a' b' ha hb
   injection h with h
   subst h
   simp only [denTs] at hd ⊢
   cases h1 : denT ν a' with
   | none => rw [h1] at hd; cases hd
   | some x =>
    cases h2 : denTs ν b' with
    | none => rw [h1, h2] at hd; cases hd
    | some y => rw [h1, h2] at hd; rw [insT_den hx hu ha h1, insTs_den hx hu hb h2]; exact hd
  ·cases h
end
theorem eqT1_spec {E : List TEq} (hE : TEqOk E) {pc : List (Tm × Bool)} (hpc : ∀ t b, (t, b) ∈ pc → IsSo ν t b) {t u : Tm} (h : eqT1 E pc t u = true) {d : Dat} (hd : denT ν u = some d) : denT ν t = some d := by
 unfold eqT1 at h
 rw [Bool.or_eq_true] at h
 rcases h with h | h
 ·rw [eqTm_eq h]; exact hd
 ·obtain ⟨e, he, hc⟩ := List.any_eq_true.1 h
  simp only [Bool.and_eq_true] at hc
  obtain ⟨⟨h1, h2⟩, h3⟩ := hc
  rw [← eqTm_eq h1]
  rw [← eqTm_eq h2] at hd
  exact hE e he ν (hasAll_sound hpc h3) d hd
mutual
theorem eqTE_spec {E : List TEq} (hE : TEqOk E) {pc : List (Tm × Bool)} (hpc : ∀ t b, (t, b) ∈ pc → IsSo ν t b) : ∀ (n : Nat) {t u : Tm}, eqTE E pc n t u = true → ∀ {d : Dat}, denT ν u = some d → denT ν t = some d
 | 0, t, u, h, d, hd => by
  unfold eqTE at h
  exact eqT1_spec hE hpc h hd
 | n + 1, t, u, h, d, hd => by
  unfold eqTE at h
  split at h
  ·rename_i h1
   exact eqT1_spec hE hpc h1 hd
  ·split at h
   ·rename_i o l p m _
    rw [Bool.and_eq_true] at h
    have := Nat.eq_of_beq_eq_true h.1
    subst this
    simp only [denT] at hd ⊢
    cases h1 : denTs ν m with
    | none => rw [h1] at hd; cases hd
    | some ds => rw [h1] at hd; rw [eqTEs_spec hE hpc n h.2 h1]; exact hd
   ·rename_i k a j b _
    rw [Bool.and_eq_true] at h
    have := kindEq_eq h.1
    subst this
    obtain ⟨x, h1, h2⟩ := den_conv.1 hd
    exact den_conv.2 ⟨x, eqTE_spec hE hpc n h.2 h1, h2⟩
   ·cases h
theorem eqTEs_spec {E : List TEq} (hE : TEqOk E) {pc : List (Tm × Bool)} (hpc : ∀ t b, (t, b) ∈ pc → IsSo ν t b) : ∀ (n : Nat) {l m : List Tm}, eqTEs E pc n l m = true → ∀ {ds : List Dat}, denTs ν m = some ds → denTs ν l = some ds
 | n, [], [], _, ds, hd => hd
 | n, t :: l, u :: m, h, ds, hd => by
  unfold eqTEs at h
  split at h
  ·rename_i h1
   simp only [denTs] at hd ⊢
   cases k1 : denT ν u with
   | none => rw [k1] at hd; cases hd
   | some x =>
    cases k2 : denTs ν m with
    | none => rw [k1, k2] at hd; cases hd
    | some y => rw [k1, k2] at hd; rw [eqTE_spec hE hpc n h1 k1, eqTEs_spec hE hpc n h k2]; exact hd
  ·cases h
 | n, [], _ :: _, h, _, _ => by unfold eqTEs at h; cases h
 | n, _ :: _, [], h, _, _ => by unfold eqTEs at h; cases h
end
end
section
variable {σ : Nat → Option Nat} {q : Tm → Tm → Bool} {ν νp : Nm}
structure Tells (σ : Nat → Option Nat) (q : Tm → Tm → Bool) (νp ν : Nm) : Prop where
 f : ∀ j i, σ j = some i → νp.f j = ν.f i
 q : ∀ t u, q t u = true → ∀ d, denT ν u = some d → denT νp t = some d
 x : ∀ j, j < atoms0 → νp.x j = ν.x j
 z : νp.z = ν.z
theorem tells_cap (H : Tells σ q νp ν) {c d : Cap} (h : isCap σ c d = true) {n : Nat} (hd : capOf ν d = some n) : capOf νp c = some n := by
 cases c <;> cases d <;> simp only [isCap, Bool.and_eq_true] at h <;> first | (cases h; done) | skip
 ·rw [Nat.eq_of_beq_eq_true h]; exact hd
 ·simp only [capOf] at hd ⊢
  rw [H.f _ _ (isN_spec h.1), Nat.eq_of_beq_eq_true h.2]
  exact hd
theorem tells_fn (H : Tells σ q νp ν) {c d : AFn} (h : isFn σ c d = true) {n : Fn} (hd : fnOf ν d = some n) : fnOf νp c = some n := by
 cases c <;> cases d <;> simp only [isFn] at h <;> first | (cases h; done) | skip
 ·rw [Nat.eq_of_beq_eq_true h]; exact hd
 ·simp only [fnOf] at hd ⊢
  rw [H.f _ _ (isN_spec h)]
  exact hd
mutual
theorem okV_den (H : Tells σ q νp ν) : ∀ {a b : AV} {V : Value}, okV σ q a b = true → den ν b = some V → den νp a = some V
 | .bool a, b, V, h, hd => by
  cases b <;> simp only [okV] at h <;> first | (cases h; done) | skip
  rw [eq_of_beq h]; exact hd
 | .int k a, b, V, h, hd => by
  cases b <;> simp only [okV, Bool.and_eq_true] at h <;> first | (cases h; done) | skip
  rw [kindEq_eq h.1, intEq_eq h.2]; exact hd
 | .str a, b, V, h, hd => by
  cases b <;> simp only [okV] at h <;> first | (cases h; done) | skip
  rw [bytesEq_eq h]; exact hd
 | .nptr, b, V, h, hd => by
  cases b <;> simp only [okV] at h <;> first | (cases h; done) | exact hd
 | .ptr i n, b, V, h, hd => by
  cases b <;> simp only [okV, Bool.and_eq_true] at h <;> first | (cases h; done) | skip
  simp only [den] at hd ⊢
  rw [H.f _ _ (isN_spec h.1), Nat.eq_of_beq_eq_true h.2]
  exact hd
 | .nslice, b, V, h, hd => by
  cases b <;> simp only [okV] at h <;> first | (cases h; done) | exact hd
 | .slice i n l c, b, V, h, hd => by
  cases b <;> simp only [okV, Bool.and_eq_true] at h <;> first | (cases h; done) | skip
  obtain ⟨⟨⟨h1, h2⟩, h3⟩, h4⟩ := h
  obtain ⟨g, C, k1, k2, k3, rfl⟩ := slice_den hd
  simp only [den]
  rw [H.f _ _ (isN_spec h1), Nat.eq_of_beq_eq_true h2, Nat.eq_of_beq_eq_true h3, k1, tells_cap H h4 k2]
  simp only
  rw [if_pos k3]
 | .nmap, b, V, h, hd => by
  cases b <;> simp only [okV] at h <;> first | (cases h; done) | exact hd
 | .map i, b, V, h, hd => by
  cases b <;> simp only [okV] at h <;> first | (cases h; done) | skip
  simp only [den] at hd ⊢
  rw [H.f _ _ (isN_spec h)]
  exact hd
 | .func f a c, b, V, h, hd => by
  cases b <;> simp only [okV, Bool.and_eq_true] at h <;> first | (cases h; done) | skip
  obtain ⟨⟨h1, h2⟩, h3⟩ := h
  obtain ⟨fn, FZ, CS, k1, k2, k3, rfl⟩ := func_den hd
  simp only [den]
  rw [tells_fn H h1 k1, okVs_den H h2 k2, okVs_den H h3 k3]
 | .nfunc, b, V, h, hd => by
  cases b <;> simp only [okV] at h <;> first | (cases h; done) | exact hd
 | .iface t v, b, V, h, hd => by
  cases b <;> simp only [okV, Bool.and_eq_true] at h <;> first | (cases h; done) | skip
  simp only [den] at hd ⊢
  split at hd
  ·rename_i U hU
   rw [okV_den H h.2 hU, Nat.eq_of_beq_eq_true h.1]
   exact hd
  ·cases hd
 | .niface, b, V, h, hd => by
  cases b <;> simp only [okV] at h <;> first | (cases h; done) | exact hd
 | .agg a, b, V, h, hd => by
  cases b <;> simp only [okV] at h <;> first | (cases h; done) | skip
  obtain ⟨L, k1, rfl⟩ := agg_den hd
  simp only [den]
  rw [okVs_den H h k1]
 | .tup a, b, V, h, hd => by
  cases b <;> simp only [okV] at h <;> first | (cases h; done) | skip
  obtain ⟨L, k1, rfl⟩ := tup_den hd
  simp only [den]
  rw [okVs_den H h k1]
 | .ext i, b, V, h, hd => by
  cases b <;> simp only [okV, Bool.and_eq_true] at h <;> first | (cases h; done) | skip
  have := Nat.eq_of_beq_eq_true h.1
  subst this
  simp only [den] at hd ⊢
  rw [H.x _ (Nat.le_of_ble_eq_true h.2)]
  exact hd
 | .glob g n, b, V, h, hd => by
  cases b <;> simp only [okV, Bool.and_eq_true] at h <;> first | (cases h; done) | skip
  rw [Nat.eq_of_beq_eq_true h.1, Nat.eq_of_beq_eq_true h.2]; exact hd
 | .sym k t, b, V, h, hd => by
  cases b <;> simp only [okV, Bool.and_eq_true] at h <;> first | (cases h; done) | skip
  ·simp only [den, Option.some.injEq] at hd
   simp only [den]
   rw [H.q _ _ h.2 _ rfl, kindEq_eq h.1, ← hd]
  ·obtain ⟨n, k1, rfl⟩ := sym_den hd
   simp only [den]
   rw [H.q _ _ h.2 _ k1, kindEq_eq h.1]
 | .symB t, b, V, h, hd => by
  cases b <;> simp only [okV] at h <;> first | (cases h; done) | skip
  ·rename_i c
   simp only [den, Option.some.injEq] at hd
   simp only [den]
   rw [H.q _ _ h _ rfl, ← hd]
   cases c <;> rfl
  ·obtain ⟨n, k1, rfl⟩ := symB_den hd
   simp only [den]
   rw [H.q _ _ h _ k1]
 | .symS t, b, V, h, hd => by
  cases b <;> simp only [okV] at h <;> first | (cases h; done) | skip
  ·rename_i l
   simp only [den, Option.some.injEq] at hd
   simp only [den]
   rw [H.q _ _ h _ (bytesTm_den ν l), ← hd]
  ·rename_i u
   obtain ⟨l, k1, _, rfl⟩ := txt_cz (u := u) rfl hd
   simp only [den]
   rw [H.q _ _ h _ k1]
 | .deep e t, b, V, h, hd => by
  cases b <;> simp only [okV, Bool.and_eq_true] at h <;> first | (cases h; done) | skip
  ·simp only [den, Option.some.injEq] at hd
   simp only [den]
   rw [H.q _ _ h _ (den_f14.2 rfl), ← hd]
   simp only
   rw [if_pos ⟨trivial, rfl⟩]
  ·rename_i f u
   have := Nat.eq_of_beq_eq_true h.1
   subst this
   obtain ⟨xs, k1, k2⟩ := deep_den hd
   simp only [den]
   rw [H.q _ _ h.2 _ k1]
   simp only
   rw [if_pos ⟨trivial, k2⟩]
 | .sslice i t c, b, V, h, hd => by
  cases b <;> simp only [okV, Bool.and_eq_true] at h <;> first | (cases h; done) | skip
  obtain ⟨⟨h1, h2⟩, h3⟩ := h
  obtain ⟨g, m, cap, k1, k2, k3, k4, rfl⟩ := sslice_den hd
  exact sslice_mk ((H.f _ _ (isN_spec h1)).trans k1) (H.q _ _ h2 _ k2) (tells_cap H h3 k3) k4
 | .tail _ _ _ _ _ _, b, V, h, hd => by cases b <;> cases h
 | .dptr _ _ _ _ _, b, V, h, hd => by cases b <;> cases h
theorem okVs_den (H : Tells σ q νp ν) : ∀ {a b : List AV} {V : List Value}, okVs σ q a b = true → denL ν b = some V → denL νp a = some V
 | [], b, V, h, hd => by
  cases b with
  | nil => exact hd
  | cons _ _ => cases h
 | a :: l, b, V, h, hd => by
  cases b with
  | nil => cases h
  | cons b m =>
   unfold okVs at h
   split at h
   ·rename_i hab
    obtain ⟨U, R, k1, k2, rfl⟩ := denL_cons hd
    exact denL_mk (okV_den H hab k1) (okVs_den H h k2)
   ·cases h
end
theorem okEs_rel (H : Tells σ q νp ν) : ∀ {a b : List (AV × AV × Nat)} {l : List MapEntry}, okEs σ q a b = true → All2 (ERel ν) b l → All2 (ERel νp) a l
 | [], b, l, h, hd => by
  cases b with
  | nil => cases l with
   | nil => trivial
   | cons _ _ => exact hd.elim
  | cons _ _ => cases h
 | (a, c, d) :: r, b, l, h, hd => by
  cases b with
  | nil => cases h
  | cons y m =>
   obtain ⟨y1, y2, y3⟩ := y
   unfold okEs at h
   split at h
   ·rename_i hab
    simp only [Bool.and_eq_true] at hab
    cases l with
    | nil => exact hd.elim
    | cons e l =>
     obtain ⟨⟨k1, k2, k3⟩, k4⟩ := hd
     exact ⟨⟨okV_den H hab.1.1 k1, okV_den H hab.1.2 k2, (Nat.eq_of_beq_eq_true hab.2).trans k3⟩, okEs_rel H h k4⟩
   ·cases h
theorem okO_rel {P : Program} (H : Tells σ q νp ν) {a b : AObj} {obj : Obj} (h : okO σ q a b = true) (k : ORel P ν b obj) : ORel P νp a obj := by
 cases a <;> cases b <;> simp only [okO, Bool.and_eq_true] at h <;> try (cases h; done)
 ·rename_i l t c m u' d
  cases obj <;> simp only [ORel] at k ⊢ <;> try exact k.elim
  obtain ⟨k1, k2, L, R, k3, k4, k5⟩ := k
  refine ⟨by rw [Nat.eq_of_beq_eq_true h.1.1]; exact k1, k2, L, R, okVs_den H h.2 k3, k4, ?_⟩
  cases c <;> cases d <;> simp only [isON] at h <;> first | (cases h.1.2; done) | skip
  ·exact k5
  ·obtain ⟨cap, i, k6, k7, k8⟩ := k5
   exact ⟨cap, i, (H.f _ _ (isN_spec h.1.2)).trans k6, by rw [Nat.eq_of_beq_eq_true h.1.1]; exact k7, k8⟩
 ·cases obj <;> simp only [ORel] at k ⊢ <;> try exact k.elim
  exact ⟨by rw [Nat.eq_of_beq_eq_true h.1]; exact k.1, okEs_rel H h.2 k.2⟩
 ·rename_i m a l b m' a' l' b'
  cases obj <;> simp only [ORel] at k ⊢ <;> try exact k.elim
  obtain ⟨⟨⟨h1, h2⟩, h3⟩, h4⟩ := h
  refine ⟨?_, by rw [Nat.eq_of_beq_eq_true h2]; exact k.2.1, by rw [eqNs_eq h4]; exact k.2.2.1, by rw [Nat.eq_of_beq_eq_true h3]; exact k.2.2.2⟩
  cases m <;> cases m' <;> simp only [isON] at h1 <;> first | (cases h1; done) | skip
  ·exact k.1
  ·obtain ⟨g, g1, g2⟩ := k.1
   exact ⟨g, (H.f _ _ (isN_spec h1)).trans g1, g2⟩
 ·cases obj <;> simp only [ORel] at k ⊢ <;> try exact k.elim
  exact k
 ·rename_i t e c t' e' d
  cases obj <;> simp only [ORel] at k ⊢ <;> try exact k.elim
  obtain ⟨k1, k2, dd, L, R, k3, k4, k5, k6⟩ := k
  have he := Nat.eq_of_beq_eq_true h.1.2
  refine ⟨by rw [he]; exact k1, k2, dd, L, R, H.q _ _ h.1.1 _ k3, by rw [he, H.z]; exact k4, k5, ?_⟩
  cases c <;> cases d <;> simp only [isON] at h <;> first | (cases h.2; done) | skip
  ·exact k6
  ·obtain ⟨cap, i, k7, k8, k9⟩ := k6
   exact ⟨cap, i, (H.f _ _ (isN_spec h.2)).trans k7, by rw [he]; exact k8, k9⟩
end
theorem exEq_spec {a b : Ex} (h : exEq a b = true) : a = b := by
 cases a <;> cases b <;> simp only [exEq] at h <;> first | rfl | (cases h; done) | rw [Nat.eq_of_beq_eq_true h]
theorem okSl_spec {E : List TEq} {n0 : Nat} {φ : Fit} {o p : Out} : ∀ {l : List (Nat × AV)}, okSl E n0 φ o p l = true → ∀ r ∈ l, ∃ v, o.T.get r.1 = some v ∧ okV (sgN n0 p.s.n φ.f) (okQ E n0 φ o p) r.2 v = true
 | [], _, r, hr => by cases hr
 | (i, u) :: l, h, r, hr => by
  simp only [okSl, Bool.and_eq_true] at h
  rcases List.mem_cons.1 hr with rfl | hr
  ·have h1 := h.1
   split at h1
   ·rename_i v hv
    exact ⟨v, hv, h1⟩
   ·cases h1
  ·exact okSl_spec h.2 r hr
theorem okPc_spec {lm : List Lem} {n0 : Nat} {φ : Fit} {o p : Out} {ν νp : Nm} (hL : LemD lm) (hpc : ∀ t b, (t, b) ∈ o.s.x.pc → IsSo ν t b) (hi : ∀ {t u : Tm} {d : Dat}, insT n0 p.s.n φ.x t = some u → denT ν u = some d → denT νp t = some d) : ∀ {l : List (Tm × Bool)}, okPc lm n0 φ o p l = true → ∀ t b, (t, b) ∈ l → IsSo νp t b
 | [], _, t, b, hm => by cases hm
 | (t', b') :: l, h, t, b, hm => by
  simp only [okPc, Bool.and_eq_true] at h
  rcases List.mem_cons.1 hm with e | hm
  ·simp only [Prod.mk.injEq] at e
   obtain ⟨rfl, rfl⟩ := e
   have h1 := h.1
   split at h1
   ·rename_i u hu
    rw [Bool.or_eq_true] at h1
    have : IsSo ν u b := by
     rcases h1 with h1 | h1
     ·split at h1
      ·rename_i c hc
       have : c = b := eq_of_beq h1
       subst this
       exact knownT_sound hc hpc
      ·cases h1
     ·obtain ⟨e, he, hc⟩ := List.any_eq_true.1 h1
      simp only [Bool.and_eq_true] at hc
      obtain ⟨⟨c1, c2⟩, c3⟩ := hc
      have := hL e he ν (hasAll_sound hpc c3)
      rw [eqTm_eq c1, eq_of_beq c2] at this
      exact this
    obtain ⟨n, k1, k2⟩ := this
    exact ⟨n, hi hu k1, k2⟩
   ·cases h1
  ·exact okPc_spec hL hpc hi h.2 t b hm
theorem covG_spec {E : List TEq} (hE : TEqOk E) {lm : List Lem} (hL : LemD lm) {n0 : Nat} {o p : Out} (h : covG E lm n0 o p = true) {P : Program} {w0 w : World} {A : Anch} {ν0 ν : Nm} (a1 : Nm.le ν0 ν) (a2 : ∀ i, n0 ≤ i → ν0 i = none) (a5 : ∀ i, n0 ≤ i → ν0.x (atoms0 + i) = none) (a3 : Nm.le A.ν ν0) (a4 : GlobOk ν0 o.s.x.gl w0) (hW : WRel P w0 A ν o.s w) :
  p.e = o.e ∧ p.M = [] ∧ o.M = [] ∧ ∃ νp, Nm.le ν0 νp ∧ WRel P w0 A νp p.s w ∧ (∀ V, den ν o.v = some V → den νp p.v = some V) ∧ ∀ i u, p.T.get i = some u → ∃ v, o.T.get i = some v ∧ ∀ V, den ν v = some V → den νp u = some V := by
 unfold covG at h
 simp only [Bool.and_eq_true] at h
 generalize fitG n0 o p = φ at h
 obtain ⟨⟨⟨⟨⟨⟨⟨⟨⟨⟨h1, h2⟩, h3⟩, h4⟩, h5⟩, h6⟩, hv⟩, hsl⟩, hobj⟩, hold⟩, hpc⟩ := h
 have hn := Nat.le_of_ble_eq_true h4
 have ble1 : ∀ {a b : Nat}, a ≤ b → Nat.ble a b = true := fun h => Nat.ble_eq_true_of_le h
 have ble0 : ∀ {a b : Nat}, b < a → Nat.ble a b = false := fun {a b} h => by
  cases hb : Nat.ble a b with
  | false => rfl
  | true => have := Nat.le_of_ble_eq_true hb; omega
 refine ⟨exEq_spec h1, by simpa using h2, by simpa using h3, ?_⟩
 obtain ⟨νp, hνp⟩ : ∃ νp : Nm, νp = ⟨fun j => (sgN n0 p.s.n φ.f j).bind ν.f, fun j => match insT n0 p.s.n φ.x (.x j) with
  | some u => denT ν u
  | none => none, ν.u, ν.z⟩ := ⟨_, rfl⟩
 have pf : ∀ j, νp.f j = (sgN n0 p.s.n φ.f j).bind ν.f := fun j => by rw [hνp]
 have px : ∀ j, νp.x j = match insT n0 p.s.n φ.x (.x j) with
  | some u => denT ν u
  | none => none := fun j => by rw [hνp]
 have pu : νp.u = ν.u := by rw [hνp]
 have pz : νp.z = ν.z := by rw [hνp]
 have xold : ∀ j, j < atoms0 + n0 → νp.x j = ν.x j := fun j hj => by
  rw [px]
  simp only [insT]
  rw [ble0 hj]
  rfl
 have hx : ∀ j u, insT n0 p.s.n φ.x (.x j) = some u → ∀ d, denT ν u = some d → νp.x j = some d := fun j u hu d hd => by
  rw [px, hu]
  exact hd
 have hins : ∀ {t u : Tm} {d : Dat}, insT n0 p.s.n φ.x t = some u → denT ν u = some d → denT νp t = some d := fun hu hd => insT_den hx pu hu hd
 have H : Tells (sgN n0 p.s.n φ.f) (okQ E n0 φ o p) νp ν := by
  refine ⟨fun j i hj => by rw [pf, hj]; rfl, fun t u hq d hd => ?_, fun j hj => xold j (by omega), pz⟩
  unfold okQ at hq
  split at hq
  ·rename_i t' ht'
   exact hins ht' (eqTE_spec hE hW.ctx.pc 3 hq hd)
  ·cases hq
 have hle : Nm.le ν0 νp := by
  refine ⟨fun i g hi => ?_, fun j d hj => ?_, by rw [pu, a1.u], fun j hj => by rw [xold j (by omega)]; exact a1.xe j hj, fun g ob hg => by rw [pz]; exact a1.z g ob hg⟩
  ·have hlt : i < n0 := by
    rcases Nat.lt_or_ge i n0 with h | h
    ·exact h
    ·rw [a2 i h] at hi; cases hi
   show νp.f i = some g
   rw [pf, sgN_old hlt]
   exact a1 i g hi
  ·have hlt : j < atoms0 + n0 := by
    rcases Nat.lt_or_ge j (atoms0 + n0) with h | h
    ·exact h
    ·have := a5 (j - atoms0) (by omega)
     rw [show atoms0 + (j - atoms0) = j by omega, hj] at this
     cases this
   rw [xold j hlt]
   exact a1.x j d hj
 refine ⟨νp, hle, ?_, fun V hV => okV_den H hv hV, fun i u hu => ?_⟩
 ·have live : ∀ j ob, p.s.h.get j = some ob → ∃ i ob2, sgN n0 p.s.n φ.f j = some i ∧ o.s.h.get i = some ob2 ∧ okO (sgN n0 p.s.n φ.f) (okQ E n0 φ o p) ob ob2 = true ∧ (j < n0 ∨ (n0 ≤ i ∨ p.s.h.get i = none) ∧ φ.b.get i = some j) := fun j ob hj => by
   have := allT_spec hobj j ob hj
   rw [Nat.one_mul, Nat.add_zero] at this
   unfold okJG at this
   split at this
   ·rename_i i hi
    simp only [Bool.and_eq_true] at this
    obtain ⟨h1, h2⟩ := this
    split at h1
    ·rename_i ob2 h3
     refine ⟨i, ob2, hi, h3, h1, ?_⟩
     split at h2
     ·rename_i hb
      exact .inl (Nat.le_of_ble_eq_true hb)
     ·simp only [Bool.and_eq_true] at h2
      obtain ⟨h4, h5⟩ := h2
      split at h5
      ·rename_i k hk
       refine .inr ⟨?_, by rw [hk, Nat.eq_of_beq_eq_true h5]⟩
       rcases (Bool.or_eq_true ..).mp h4 with h4 | h4
       ·exact .inl (Nat.le_of_ble_eq_true h4)
       ·exact .inr (Option.isNone_iff_eq_none.1 h4)
      ·cases h5
    ·cases h1
   ·cases this
  have hfi : ∀ {j i}, sgN n0 p.s.n φ.f j = some i → νp.f j = ν.f i := fun h => H.f _ _ h
  refine ⟨hW.keep, fun j hj => ?_, fun j ob hj => ?_, fun j k ob ob' hj hk e => ?_, a3.trans hle, hW.anc, fun i ob hi hnl => ?_, hW.far, hW.big, fun j ob hj g hg => ?_, ⟨?_, okPc_spec hL hW.ctx.pc hins hpc⟩, fun g ob hg => ⟨(hW.frz g ob (by rw [← pz]; exact hg)).1, fun j ob' hj e => ?_⟩, fun g ob hg => hW.zown g ob (by rw [← pz]; exact hg), fun j d hj => ?_, fun i hi => ?_⟩
  ·show νp.f j = none
   rw [pf]
   cases hs : sgN n0 p.s.n φ.f j with
   | none => rfl
   | some i =>
    rcases sgN_lt hs with ⟨h1, _⟩ | ⟨_, h2⟩
    ·omega
    ·omega
  ·obtain ⟨i, ob2, h1, h2, h3, _⟩ := live j ob hj
   obtain ⟨g, obj, k1, k2, k3, k4⟩ := hW.objs i ob2 h2
   exact ⟨g, obj, (hfi h1).trans k1, k2, k3, okO_rel H h3 k4⟩
  ·obtain ⟨i, ob2, h1, h2, _, h4⟩ := live j ob hj
   obtain ⟨i', ob2', h1', h2', _, h4'⟩ := live k ob' hk
   have e2 : i = i' := hW.inj i i' ob2 ob2' h2 h2' (by
    have e1 : ν.f i = ν.f i' := (hfi h1).symm.trans ((show νp.f j = νp.f k from e).trans (hfi h1'))
    exact e1)
   subst e2
   rcases h4 with h4 | ⟨h4, h5⟩ <;> rcases h4' with h4' | ⟨h4', h5'⟩
   ·rw [sgN_old h4] at h1
    rw [sgN_old h4'] at h1'
    injection h1 with h1
    injection h1' with h1'
    omega
   ·rw [sgN_old h4] at h1
    injection h1 with h1
    rcases h4' with h4' | h4'
    ·omega
    ·rw [← h1, hj] at h4'; cases h4'
   ·rw [sgN_old h4'] at h1'
    injection h1' with h1'
    rcases h4 with h4 | h4
    ·omega
    ·rw [← h1', hk] at h4; cases h4
   ·rw [h5] at h5'
    injection h5'
  ·have hlt : i < n0 := by
    obtain ⟨g, hg⟩ := hW.anc i ob hi
    have := a3 _ _ hg
    rcases Nat.lt_or_ge i n0 with h | h
    ·exact h
    ·rw [a2 i h] at this; cases this
   have hnl' : i ∉ o.s.log := fun hm => by
    have := List.all_eq_true.1 h6 i hm
    rw [Bool.or_eq_true] at this
    rcases this with h | h
    ·have := Nat.le_of_ble_eq_true h; omega
    ·obtain ⟨y, hy, hb⟩ := List.any_eq_true.1 h
     rw [Nat.eq_of_beq_eq_true hb] at hnl
     exact hnl hy
   obtain ⟨⟨o2, h1⟩, h2⟩ := hW.same i ob hi hnl'
   refine ⟨?_, h2⟩
   have := allT_spec hold i o2 h1
   rw [Nat.one_mul, Nat.add_zero, Nat.ble_eq_true_of_le hlt] at this
   rcases (Bool.or_eq_true ..).mp this with h | h
   ·exact Option.isSome_iff_exists.1 h
   ·obtain ⟨y, hy, hb⟩ := List.any_eq_true.1 h
    have hb : i = y := Nat.eq_of_beq_eq_true hb
    exact absurd (by rw [hb]; exact hy) hnl
  ·obtain ⟨i, ob2, h1, h2, _, _⟩ := live j ob hj
   exact hW.own i ob2 h2 g ((hfi h1).symm.trans hg)
  ·rw [← eqGl_eq h5]
   intro g l hg i v hv'
   obtain ⟨V, k1, k2⟩ := a4 g l hg i v hv'
   exact ⟨V, den_mono hle v V k1, k2⟩
  ·obtain ⟨i, ob2, h1, h2, _, _⟩ := live j ob' hj
   exact (hW.frz g ob (by rw [← pz]; exact hg)).2 i ob2 h2 ((hfi h1).symm.trans e)
  ·rw [pz]
   rw [px] at hj
   split at hj
   ·exact denT_ok hW.dat hj
   ·cases hj
  ·show νp.x (atoms0 + i) = none
   rw [px]
   simp only [insT]
   rw [ble1 (show atoms0 + n0 ≤ atoms0 + i by omega)]
   simp only
   rw [ble0 (show atoms0 + p.s.n < atoms0 + i + 1 by omega)]
 ·obtain ⟨v, k1, k2⟩ := okSl_spec hsl (i, u) (tree_mem.2 hu)
  exact ⟨v, k1, fun V hV => okV_den H k2 hV⟩
section
variable (P : Program)
mutual
def frzD : AV → St → AV × St
 | .tup l, s => let r := frzDs l s
  (.tup r.1, r.2)
 | .agg l, s => let r := frzDs l s
  (.agg r.1, r.2)
 | v, s => match frzV P s v with
  | some r => r
  | none => (v, s)
def frzDs : List AV → St → List AV × St
 | [], s => ([], s)
 | v :: l, s => let r := frzD v s
  let q := frzDs l r.2
  (r.1 :: q.1, q.2)
end
def frzOut (o : Out) : Out := let r := frzD P o.v o.s
 { o with v := r.1, s := r.2 }
end
section
variable {P : Program} {w0 w : World} {A : Anch}
mutual
theorem frzD_rel : ∀ {v : AV} {s : St} {ν : Nm} {V : Value}, WRel P w0 A ν s w → den ν v = some V → ∃ ν', Nm.le ν ν' ∧ WRel P w0 A ν' (frzD P v s).2 w ∧ den ν' (frzD P v s).1 = some V
 | .tup l, s, ν, V, h, hv => by
  obtain ⟨L, h1, rfl⟩ := tup_den hv
  obtain ⟨ν', k1, k2, k3⟩ := frzDs_rel h h1
  exact ⟨ν', k1, k2, by simp only [frzD, den, k3]⟩
 | .agg l, s, ν, V, h, hv => by
  obtain ⟨L, h1, rfl⟩ := agg_den hv
  obtain ⟨ν', k1, k2, k3⟩ := frzDs_rel h h1
  exact ⟨ν', k1, k2, by simp only [frzD, den, k3]⟩
 | .sslice i n c, s, ν, V, h, hv => by
  unfold frzD
  split
  ·rename_i r hr
   obtain ⟨ν', k1, k2, k3⟩ := frzV_rel h hr hv
   exact ⟨ν', k1, k2, k3⟩
  ·exact ⟨ν, Nm.le.refl _, h, hv⟩
 | .slice i n l c, s, ν, V, h, hv => by
  unfold frzD
  split
  ·rename_i r hr
   obtain ⟨ν', k1, k2, k3⟩ := frzV_rel h hr hv
   exact ⟨ν', k1, k2, k3⟩
  ·exact ⟨ν, Nm.le.refl _, h, hv⟩
 | .bool _, s, ν, V, h, hv | .int _ _, s, ν, V, h, hv | .str _, s, ν, V, h, hv | .nptr, s, ν, V, h, hv | .ptr _ _, s, ν, V, h, hv | .nslice, s, ν, V, h, hv | .nmap, s, ν, V, h, hv | .map _, s, ν, V, h, hv | .func _ _ _, s, ν, V, h, hv | .nfunc, s, ν, V, h, hv
 | .iface _ _, s, ν, V, h, hv | .niface, s, ν, V, h, hv | .ext _, s, ν, V, h, hv | .glob _ _, s, ν, V, h, hv | .tail _ _ _ _ _ _, s, ν, V, h, hv | .dptr _ _ _ _ _, s, ν, V, h, hv | .sym _ _, s, ν, V, h, hv | .symB _, s, ν, V, h, hv | .symS _, s, ν, V, h, hv | .deep _ _, s, ν, V, h, hv => ⟨ν, Nm.le.refl _, h, hv⟩
theorem frzDs_rel : ∀ {l : List AV} {s : St} {ν : Nm} {L : List Value}, WRel P w0 A ν s w → denL ν l = some L → ∃ ν', Nm.le ν ν' ∧ WRel P w0 A ν' (frzDs P l s).2 w ∧ denL ν' (frzDs P l s).1 = some L
 | [], s, ν, L, h, hl => ⟨ν, Nm.le.refl _, h, hl⟩
 | v :: l, s, ν, L, h, hl => by
  obtain ⟨V, R, h1, h2, rfl⟩ := denL_cons hl
  obtain ⟨ν1, k1, k2, k3⟩ := frzD_rel h h1
  obtain ⟨ν2, k4, k5, k6⟩ := frzDs_rel k2 (denL_mono k1 _ _ h2)
  exact ⟨ν2, k1.trans k4, k5, denL_mk (den_mono k4 _ _ k3) k6⟩
end
end
def okEntG (P : Program) (pr : Pr) (E : List TEq) (lm : List Lem) (z : Bool) (n : Nat) (e : Ent) : Bool :=
 match eval P pr n (.call e.f e.args e.s) with
 | some outs => outs.all fun o => let o := (match z with | true => frzOut P o | false => o)
  match o.e with
  | .ret => eqGl e.s.x.gl o.s.x.gl && e.outs.any (covG E lm e.s.n { o with T := .e, M := [] })
  | _ => false
 | none => false
theorem okEntG_cons {P : Program} {U : Int} (hm : P.follows .mixedOrders = true) (hN : okNames P = true) {pr : Pr} (hP : PrOk P U pr) {E : List TEq} (hE : TEqOk E) {lm : List Lem} (hL : LemD lm) {z : Bool} {n : Nat} {e : Ent} (h : okEntG P pr E lm z n e = true) {tab : List Ent} (hT : TabOk P (AnyOk P U) U tab) : TabOk P (AnyOk P U) U (e :: tab) := fun x hx => by
 rcases List.mem_cons.1 hx with rfl | hx
 ·unfold okEntG at h
  split at h
  ·rename_i outs ho
   obtain ⟨h1, h2⟩ : SoundReq P (AnyOk P U) U n outs (.call x.f x.args x.s) := eval_sound hm hN hP n _ _ ho
   refine ⟨h1, fun w0 A ν w VS hU hW hVS => Calls.mono (h2 w0 A ν w VS hU hW hVS) fun r w' hr => ?_⟩
   obtain ⟨o, hoo, ν', V, k1, k2, k3, k4⟩ := hr
   have hall := List.all_eq_true.1 h o hoo
   obtain ⟨ν2, q1, q2, q3⟩ : ∃ ν2, Nm.le ν' ν2 ∧ WRel P w0 A ν2 (match z with | true => frzOut P o | false => o).s w' ∧ den ν2 (match z with | true => frzOut P o | false => o).v = some V := by
    cases z with
    | true => exact frzD_rel k2 k3
    | false => exact ⟨ν', Nm.le.refl _, k2, k3⟩
   simp only at hall
   generalize (match z with | true => frzOut P o | false => o) = o2 at hall q2 q3
   split at hall
   ·rename_i he
    rw [Bool.and_eq_true] at hall
    obtain ⟨hgl, hall⟩ := hall
    obtain ⟨p, hp, hc⟩ := List.any_eq_true.1 hall
    obtain ⟨_, _, _, νp, m1, m2, m3, _⟩ := covG_spec hE hL hc (k1.trans q1) hW.top hW.topx hW.ext (by show GlobOk ν o2.s.x.gl w0; rw [← eqGl_eq hgl]; exact hW.ctx.gl) q2
    exact ⟨p, hp, νp, V, m1, m2, m3 V q3, k4⟩
   ·cases hall
  ·cases h
 ·exact hT x hx
end Go.Proofs.YtcjbpaiomcfgnaaGreatDoor
namespace Go.Proofs.YtcjbpaiomcfgnaaGreatDoor
open Go Go.RowKit
mutual
def noT : Tm → Bool
 | .c _ => true
 | .x _ => true
 | .bin _ _ a b => noT a && noT b
 | .conv _ a => noT a
 | .f o l => !limF o && noTs l
def noTs : List Tm → Bool
 | [] => true
 | t :: l => noT t && noTs l
end
mutual
def noV : AV → Bool
 | .func _ a b => noVs a && noVs b
 | .iface _ v => noV v
 | .agg l => noVs l
 | .tup l => noVs l
 | .sym _ t => noT t
 | .symB t => noT t
 | .symS t => noT t
 | .deep _ t => noT t
 | .dptr _ _ t i _ => noT t && noT i
 | .sslice _ t _ => noT t
 | _ => true
def noVs : List AV → Bool
 | [] => true
 | v :: l => noV v && noVs l
end
def noO : AObj → Bool
 | .cells l _ _ => noVs l
 | .map es _ => es.all fun e => noV e.1 && noV e.2.1
 | .loop _ _ T _ _ _ _ _ => allT (fun _ v => noV v) T 1 0
 | .row t _ _ => noT t
 | _ => true
def noTr (T : Tr AV) : Bool := allT (fun _ v => noV v) T 1 0
def noSt (s : St) : Bool := allT (fun _ o => noO o) s.h 1 0 && (s.x.gl.all fun p => noVs p.2) && s.x.pc.all fun p => noT p.1
def Nm.at (ν : Nm) (u : Int) : Nm := ⟨ν.f, ν.x, u, ν.z⟩
def Anch.at (A : Anch) (u : Int) : Anch := ⟨A.h, A.ν.at u, A.w⟩
section
variable {ν : Nm} {u : Int}
mutual
theorem noT_den : ∀ {t : Tm}, noT t = true → denT (ν.at u) t = denT ν t
 | .c _, _ => rfl
 | .x _, _ => rfl
 | .bin o k a b, h => by
  simp only [noT, Bool.and_eq_true] at h
  simp only [denT, noT_den h.1, noT_den h.2]
 | .conv k a, h => by
  simp only [noT] at h
  simp only [denT, noT_den h]
 | .f o l, h => by
  simp only [noT, Bool.and_eq_true, Bool.not_eq_true'] at h
  simp only [denT, noTs_den h.2, h.1]
theorem noTs_den : ∀ {l : List Tm}, noTs l = true → denTs (ν.at u) l = denTs ν l
 | [], _ => rfl
 | t :: l, h => by
  simp only [noTs, Bool.and_eq_true] at h
  simp only [denTs, noT_den h.1, noTs_den h.2]
end
theorem capOf_at (c : Cap) : capOf (ν.at u) c = capOf ν c := by cases c <;> rfl
theorem fnOf_at (f : AFn) : fnOf (ν.at u) f = fnOf ν f := by cases f <;> rfl
mutual
theorem noV_den : ∀ {v : AV}, noV v = true → den (ν.at u) v = den ν v
 | .bool _, _ => by simp only [den]
 | .int _ _, _ => by simp only [den]
 | .str _, _ => by simp only [den]
 | .nptr, _ => by simp only [den]
 | .ptr i off, _ => by simp only [den]; rfl
 | .nslice, _ => by simp only [den]
 | .slice i off n c, _ => by simp only [den, capOf_at]; rfl
 | .nmap, _ => by simp only [den]
 | .map i, _ => by simp only [den]; rfl
 | .func f a b, h => by
  simp only [noV, Bool.and_eq_true] at h
  simp only [den, fnOf_at, noVs_den h.1, noVs_den h.2]
 | .nfunc, _ => by simp only [den]
 | .iface t v, h => by
  simp only [noV] at h
  simp only [den, noV_den h]
 | .niface, _ => by simp only [den]
 | .agg l, h => by
  simp only [noV] at h
  simp only [den, noVs_den h]
 | .tup l, h => by
  simp only [noV] at h
  simp only [den, noVs_den h]
 | .ext i, _ => by simp only [den]; rfl
 | .glob _ _, _ => by simp only [den]
 | .sym k t, h => by
  simp only [noV] at h
  simp only [den, noT_den h]
 | .symB t, h => by
  simp only [noV] at h
  simp only [den, noT_den h]
 | .tail i off o2 n c m, _ => by simp only [den, capOf_at]; rfl
 | .symS t, h => by
  simp only [noV] at h
  simp only [den, noT_den h]
 | .deep e t, h => by
  simp only [noV] at h
  simp only [den, noT_den h]
 | .dptr e sz t i off, h => by
  simp only [noV, Bool.and_eq_true] at h
  simp only [den, noT_den h.1, noT_den h.2]
 | .sslice i t c, h => by
  simp only [noV] at h
  simp only [den, noT_den h, capOf_at]; rfl
theorem noVs_den : ∀ {l : List AV}, noVs l = true → denL (ν.at u) l = denL ν l
 | [], _ => by simp only [denL]
 | v :: l, h => by
  simp only [noVs, Bool.and_eq_true] at h
  simp only [denL, noV_den h.1, noVs_den h.2]
end
theorem noTr_rel {T : Tr AV} {N : Nat} {tmps : Array Value} (h : noTr T = true) (hF : FRel ν T N tmps) : FRel (ν.at u) T N tmps :=
 ⟨hF.size, fun i v hv => by
  obtain ⟨V, h1, h2⟩ := hF.slots i v hv
  refine ⟨V, ?_, h2⟩
  rw [noV_den (allT_spec h i v hv)]
  exact h1⟩
theorem noO_rel {P : Program} {o : AObj} {obj : Obj} (h : noO o = true) (k : ORel P ν o obj) : ORel P (ν.at u) o obj := by
 cases o <;> cases obj <;> simp only [ORel] at k ⊢ <;> try exact k
 case cells.cells l t c arr t' fz =>
  obtain ⟨h1, h2, L, R, h3, h4, h5⟩ := k
  exact ⟨h1, h2, L, R, by rw [noVs_den (by simpa [noO] using h)]; exact h3, h4, h5⟩
 case map.map es clock arr clock' =>
  refine ⟨k.1, ?_⟩
  have hall : ∀ e ∈ es, noV e.1 = true ∧ noV e.2.1 = true := fun e he => by
   have := List.all_eq_true.1 (show (es.all fun e => noV e.1 && noV e.2.1) = true from h) e he
   simpa using this
  have key : ∀ {es : List (AV × AV × Nat)} {l : List MapEntry}, (∀ e ∈ es, noV e.1 = true ∧ noV e.2.1 = true) → All2 (ERel ν) es l → All2 (ERel (ν.at u)) es l := by
   intro es
   induction es with
   | nil => intro l _ h; cases l with
    | nil => trivial
    | cons _ _ => exact h.elim
   | cons e es ih => intro l ha h; cases l with
    | nil => exact h.elim
    | cons m l =>
     obtain ⟨⟨q1, q2, q3⟩, q4⟩ := h
     obtain ⟨n1, n2⟩ := ha e (List.mem_cons_self ..)
     exact ⟨⟨by rw [noV_den n1]; exact q1, by rw [noV_den n2]; exact q2, q3⟩, ih (fun e he => ha e (List.mem_cons_of_mem _ he)) q4⟩
  exact key hall k.2
 case loop.loop st pend T N ps assign body d r =>
  obtain ⟨k1, k2, k3, k4⟩ := k
  exact ⟨k1, k2, noTr_rel h k3, k4⟩
 case row.cells t e c arr t' fz =>
  obtain ⟨h1, h2, d, L, R, h3, h4, h5, h6⟩ := k
  exact ⟨h1, h2, d, L, R, by rw [noT_den (by simpa [noO] using h)]; exact h3, h4, h5, h6⟩
theorem noT_so {t : Tm} {b : Bool} (h : noT t = true) (k : IsSo ν t b) : IsSo (ν.at u) t b := by
 obtain ⟨n, k1, k2⟩ := k
 exact ⟨n, by rw [noT_den h]; exact k1, k2⟩
theorem Nm.le.at {ν ν' : Nm} (h : Nm.le ν ν') (u : Int) : Nm.le (ν.at u) (ν'.at u) := ⟨h.f, h.x, rfl, h.xe, h.z⟩
theorem noVs_get : ∀ {l : List AV}, noVs l = true → ∀ {i : Nat} {v : AV}, l[i]? = some v → noV v = true
 | [], _, i, v, h => by simp at h
 | a :: l, h, i, v, hv => by
  simp only [noVs, Bool.and_eq_true] at h
  cases i with
  | zero => simp only [List.getElem?_cons_zero, Option.some.injEq] at hv; subst hv; exact h.1
  | succ i => exact noVs_get h.2 (by simpa using hv)
theorem WRel.at {P : Program} {w0 w : World} {A : Anch} {s : St} (h : WRel P w0 A ν s w) (hs : noSt s = true) (u : Int) : WRel P w0 (A.at u) (ν.at u) s w := by
 unfold noSt at hs
 simp only [Bool.and_eq_true] at hs
 obtain ⟨⟨h1, h2⟩, h3⟩ := hs
 refine ⟨h.keep, h.top, fun i o hi => ?_, h.inj, h.ext.at u, h.anc, h.same, h.far, h.big, h.own, ⟨fun g l hg i v hv => ?_, fun t b ht => ?_⟩, h.frz, h.zown, h.dat, h.topx⟩
 ·obtain ⟨g, obj, k1, k2, k3, k4⟩ := h.objs i o hi
  exact ⟨g, obj, k1, k2, k3, noO_rel (allT_spec h1 i o hi) k4⟩
 ·obtain ⟨V, k1, k2⟩ := h.ctx.gl g l hg i v hv
  refine ⟨V, ?_, k2⟩
  rw [noV_den (noVs_get (List.all_eq_true.1 h2 (g, l) hg) hv)]
  exact k1
 ·exact noT_so (List.all_eq_true.1 h3 (t, b) ht) (h.ctx.pc t b ht)
end
def lim : Tm := .f 50 []
def eLt (m : Tm) (e : LEnt) : LEnt := { e with s := { e.s with x := ⟨e.s.x.gl, (.bin .lss .i64 m lim, true) :: (.bin .leq .i64 (.c 0) m, true) :: e.s.x.pc⟩ } }
def stLe (m : Tm) (s : St) : St := { s with x := ⟨s.x.gl, (.bin .leq .i64 m lim, true) :: s.x.pc⟩ }
def numsOf (T : Tr AV) (s : St) : List Tm := numsL ((treeL T 1 0 []).map (·.2)) (numsH (treeL s.h 1 0 []) [])
def okLoopG (P : Program) (pr : Pr) (E : List TEq) (lm : List Lem) (m : Tm) (n : Nat) (e : LEnt) : Bool :=
 noSt e.s && noTr e.T && noT m && (e.outs.all fun o => noSt o.s && noTr o.T) && numOk (numsOf e.T e.s) m && (match codeAt P e.z.1 e.z.2 with
  | some (.loop c) => match eval P { pr with lt := eLt m e :: pr.lt } n (.code (some e.z) e.r (.loop c) e.T e.N [] (stLe m e.s)) with
   | some outs => outs.all fun o => eqGl e.s.x.gl o.s.x.gl && e.outs.any (covG E lm e.s.n o)
   | none => false
  | _ => false)
theorem binZ_leq {x y : Int} (h : x ≤ y) : binZ .leq .i64 x y = some (.n 1) := by
 rw [binZ_cmp (q := decide (x ≤ y)) rfl, decide_eq_true h]
 rfl
theorem MRel.at {ν : Nm} {u : Int} {M : List Nat} {ds : List Deferred} (h : MRel ν M ds) : MRel (ν.at u) M ds := h
theorem RR.at {ν : Nm} {u : Int} {r ro : Option Nat} (h : RR ν r ro) : RR (ν.at u) r ro := h
theorem okLoopG_cons {P : Program} (hm : P.follows .mixedOrders = true) (hN : okNames P = true) {pr : Pr} (hP : ∀ U, PrOk P U pr) {E : List TEq} (hE : TEqOk E) {lm : List Lem} (hL : LemD lm) {m : Tm} {n : Nat} {e : LEnt} (h : okLoopG P pr E lm m n e = true) : ∀ U, LoopOk P (AnyOk P U) U (e :: pr.lt) := by
 unfold okLoopG at h
 simp only [Bool.and_eq_true] at h
 obtain ⟨⟨⟨⟨⟨h1, h2⟩, h3⟩, h4⟩, h5⟩, h6⟩ := h
 intro U x hx c hc
 rcases List.mem_cons.1 hx with rfl | hx
 ·rw [hc] at h6
  simp only at h6
  split at h6
  ·rename_i outs ho
   have key : ∀ (k : Nat) (U : Int) (w0 : World) (A : Anch) (ν : Nm) (w : World) (ro : Option Nat) (a : Act) (j : Int), ν.u = U → WRel P w0 A ν x.s w → FRel ν x.T x.N a.tmps → MRel ν [] a.defers → RR ν x.r ro → denT ν m = some (.n j) → j.toNat ≤ k →
     (Code.loop c).wpIn (fz ro) 0 P (Post P w0 A ν x.N x.outs) a w ∧ ∀ b, Code.loop c = .loop b → LoopsIn (fz ro) 0 P b (Post P w0 A ν x.N x.outs) a w := by
    intro k
    induction k using Nat.strongRecOn with
    | _ k ih =>
     intro U w0 A ν w ro a j hU hW hF hM hR hj hjk
     -- at the limit j
     have hlt : LoopOk P (AnyOk P j) j (eLt m x :: pr.lt) := by
      intro y hy d hd
      rcases List.mem_cons.1 hy with rfl | hy
      ·have hd : codeAt P x.z.1 x.z.2 = some (.loop d) := hd
       rw [hc] at hd
       injection hd with hd
       injection hd with hd
       subst hd
       intro hz w0 A ν w ro a hU hW hF hM hR
       have hpc := hW.ctx.pc
       obtain ⟨n1, k1, k2⟩ := hpc (.bin .lss .i64 m lim) true (List.mem_cons_self ..)
       obtain ⟨n2, k3, k4⟩ := hpc (.bin .leq .i64 (.c 0) m) true (List.mem_cons_of_mem _ (List.mem_cons_self ..))
       obtain ⟨p, q, k5, k6, k7⟩ := den_bin.1 k1
       obtain ⟨p2, q2, k8, k9, k10⟩ := den_bin.1 k3
       rw [k5] at k9
       injection k9 with k9
       injection k9 with k9
       subst k9
       have k6' : denT ν lim = some (.n ν.u) := rfl
       rw [k6'] at k6
       injection k6 with k6
       injection k6 with k6
       have k8' : denT ν (.c 0) = some (.n 0) := rfl
       rw [k8'] at k8
       injection k8 with k8
       injection k8 with k8
       subst k8 k6
       have hlt : p < ν.u := by
        by_cases hh : p < ν.u
        ·exact hh
        ·rw [binZ_cmp (q := decide (p < ν.u)) rfl, decide_eq_false hh] at k7
         injection k7 with k7
         injection k7 with k7
         subst k7
         simp at k2
       have hge : 0 ≤ p := by
        by_cases hh : 0 ≤ p
        ·exact hh
        ·rw [binZ_cmp (q := decide (0 ≤ p)) rfl, decide_eq_false hh] at k10
         injection k10 with k10
         injection k10 with k10
         subst k10
         simp at k4
       have hW' : WRel P w0 A ν x.s w := hW.swap (x := x.s.x) ⟨hW.ctx.gl, fun t b ht => hpc t b (List.mem_cons_of_mem _ (List.mem_cons_of_mem _ ht))⟩
       exact ih p.toNat (by omega) j w0 A ν w ro a p hU hW' hF hM hR k5 (Nat.le_refl _)
      ·exact (hP j).LT y hy d hd
     have hPj : PrOk P j { pr with lt := eLt m x :: pr.lt } := ⟨(hP j).R, (hP j).L, (hP j).T, (hP j).PT, hlt⟩
     have hs := eval_sound hm hN hPj n _ _ ho
     -- the state, at the limit j
     have hWj : WRel P w0 (A.at j) (ν.at j) (stLe m x.s) w := (hW.at h1 j).swap (x := ⟨x.s.x.gl, (.bin .leq .i64 m lim, true) :: x.s.x.pc⟩) ⟨(hW.at h1 j).ctx.gl, fun t b ht => by
      rcases List.mem_cons.1 ht with e | ht
      ·simp only [Prod.mk.injEq] at e
       obtain ⟨rfl, rfl⟩ := e
       exact ⟨1, den_bin.2 ⟨j, j, by rw [noT_den h3]; exact hj, rfl, binZ_leq (Int.le_refl _)⟩, rfl⟩
      ·exact (hW.at h1 j).ctx.pc t b ht⟩
     obtain ⟨s1, s2⟩ := hs hc w0 (A.at j) (ν.at j) w ro a rfl hWj (noTr_rel h2 hF) hM.at hR.at
     have back : ∀ ex a' w', Post P w0 (A.at j) (ν.at j) x.N outs ex a' w' → Post P w0 A ν x.N x.outs ex a' w' := fun ex a' w' hp => by
      obtain ⟨o, ho, ν', l1, l2, l3, l4, l5⟩ := hp
      have hall := List.all_eq_true.1 h6 o ho
      rw [Bool.and_eq_true] at hall
      obtain ⟨hgl, hall⟩ := hall
      obtain ⟨p, hp, hcov⟩ := List.any_eq_true.1 hall
      obtain ⟨m1, m2, m3, νp, m4, m5, m6, m7⟩ := covG_spec hE hL hcov l1 hWj.top hWj.topx hWj.ext (by rw [← eqGl_eq hgl]; exact hWj.ctx.gl) l3
      have hno := List.all_eq_true.1 h4 p hp
      rw [Bool.and_eq_true] at hno
      have hA : (A.at j).at ν.u = A := by
       show (⟨A.h, ⟨A.ν.f, A.ν.x, ν.u, A.ν.z⟩, A.w⟩ : Anch) = A
       rw [hW.ext.u]
      refine ⟨p, hp, νp.at ν.u, m4.at ν.u, by rw [m1]; exact l2, hA ▸ m5.at hno.1 ν.u, noTr_rel hno.2 ⟨l4.size, fun i v hv => ?_⟩, ?_⟩
      ·obtain ⟨v', q1, q2⟩ := m7 i v hv
       obtain ⟨V, q3, q4⟩ := l4.slots i v' q1
       exact ⟨V, q2 V q3, q4⟩
      ·rw [m2]
       rw [m3] at l5
       cases hd : a'.defers with
       | nil => trivial
       | cons _ _ => rw [hd] at l5; exact l5.elim
     exact ⟨wpIn_mono s1 back, fun b hb => (s2 b hb).mono back⟩
   intro hz w0 A ν w ro a hU hW hF hM hR
   obtain ⟨VS, hVS⟩ : ∃ VS, denL ν ((treeL x.T 1 0 []).map (·.2)) = some VS := slots_denL fun p hp => by
    obtain ⟨i, v⟩ := p
    obtain ⟨V, h1, _⟩ := hF.slots i v (tree_mem.1 hp)
    exact ⟨V, h1⟩
   obtain ⟨j, hj⟩ := numOk_spec (ν := ν) (numsL_spec hVS (numsH_spec (P := P) (fun p hp => by
    obtain ⟨i, ob⟩ := p
    obtain ⟨g, obj, _, _, _, k⟩ := hW.objs i ob (tree_mem.1 hp)
    exact ⟨obj, k⟩) fun _ h => by cases h)) h5
   exact key j.toNat U w0 A ν w ro a j hU hW hF hM hR hj (Nat.le_refl _)
  ·cases h6
 ·exact (hP U).LT x hx c hc
end Go.Proofs.YtcjbpaiomcfgnaaGreatDoor
namespace Go.Proofs.YtcjbpaiomcfgnaaGreatDoor
open Go
def LEN (t : Tm) : Tm := .f 0 [t]
def CELL (t i : Tm) (j : Int) : Tm := .f 1 [t, i, .c j]
def CAT (a b : Tm) : Tm := .f 2 [a, b]
def BYTES (l : List Tm) : Tm := .f 3 l
def EQS (a b : Tm) : Tm := .f 4 [a, b]
def AND (a b : Tm) : Tm := .f 5 [a, b]
def SHR (a : Tm) (n : Int) : Tm := .f 6 [a, .c n]
def u64 (t : Tm) : Tm := .conv .u64 t
def u32 (t : Tm) : Tm := .conv .u32 t
def add1 (i : Tm) : Tm := .bin .add .i64 i (.c 1)
def ge0 (t : Tm) : Tm × Bool := (.bin .geq .i64 t (.c 0), true)
def isRow (t : Tm) : Tm × Bool := ge0 (LEN (.f 15 [t]))
def leLen (i t : Tm) : Tm × Bool := (.bin .leq .i64 i (LEN t), true)
def ltLen (i t : Tm) (b : Bool) : Tm × Bool := (.bin .lss .i64 i (LEN t), b)
def left (t i : Tm) : Tm := .bin .sub .i64 (LEN t) i
def geK (k : IntKind) (t : Tm) : Tm × Bool := (.bin .geq k t (.c k.min), true)
def leK (k : IntKind) (t : Tm) : Tm × Bool := (.bin .leq k t (.c k.max), true)
def rngF (t : Tm) (k : IntKind) : List (Tm × Bool) := [geK k t, leK k t]
def rngL : List IntKind → Nat → List (Tm × Bool)
 | [], _ => []
 | k :: ks, i => geK k (.x i) :: leK k (.x i) :: rngL ks (i + 1)
def defL : List IntKind → Nat → List (Tm × Bool)
 | [], _ => []
 | k :: ks, i => geK k (.x i) :: defL ks (i + 1)
def varsT : Nat → Nat → List Tm
 | 0, _ => []
 | n + 1, i => .x i :: varsT n (i + 1)
def symsK : List IntKind → Nat → List AV
 | [], _ => []
 | k :: ks, i => .sym k (.x i) :: symsK ks (i + 1)
def symsC : List IntKind → Nat → List AV
 | [], _ => []
 | k :: ks, i => .sym k (.conv k (.x i)) :: symsC ks (i + 1)
def ofL : List AObj → Nat → Tr AObj → Tr AObj
 | [], _, T => T
 | o :: l, i, T => ofL l (i + 1) (T.put i (some o))
def ofS : List (Nat × AV) → Tr AV → Tr AV
 | [], T => T
 | (i, v) :: l, T => ofS l (T.put i (some v))
def ofH : List (Nat × AObj) → Tr AObj → Tr AObj
 | [], T => T
 | (i, v) :: l, T => ofH l (T.put i (some v))
end Go.Proofs.YtcjbpaiomcfgnaaGreatDoor
namespace Go.Proofs.YtcjbpaiomcfgnaaGreatDoor
open Go
section
variable {ν : Nm}
def AllSo (ν : Nm) : List (Tm × Bool) → Prop
 | [] => True
 | p :: l => IsSo ν p.1 p.2 ∧ AllSo ν l
theorem all_so : ∀ {l : List (Tm × Bool)}, (∀ t b, (t, b) ∈ l → IsSo ν t b) → AllSo ν l
 | [], _ => trivial
 | (t, b) :: l, h => ⟨h t b (List.mem_cons_self ..), all_so fun t b hm => h t b (List.mem_cons_of_mem _ hm)⟩
theorem so_of {t : Tm} {n : Int} (h : denT ν t = some (.n n)) : IsSo ν t (decide (n ≠ 0)) := ⟨n, h, rfl⟩
theorem so_cmp {o : BinOp} {k : IntKind} {a c : Tm} {b : Bool} {f : Int → Int → Bool} (hf : ∀ x y, cmpZ o x y = some (f x y)) (h : IsSo ν (.bin o k a c) b) : ∃ x y, denT ν a = some (.n x) ∧ denT ν c = some (.n y) ∧ f x y = b := by
 obtain ⟨x, y, n, h1, h2, h3, h4⟩ := so_bin h
 refine ⟨x, y, h1, h2, ?_⟩
 rw [binZ_cmp (hf x y)] at h3
 simp only [Option.some.injEq, Dat.n.injEq] at h3
 subst h3 h4
 cases f x y <;> simp
theorem so_cmp_mk {o : BinOp} {k : IntKind} {a c : Tm} {b : Bool} {f : Int → Int → Bool} (hf : ∀ x y, cmpZ o x y = some (f x y)) {x y : Int} (h1 : denT ν a = some (.n x)) (h2 : denT ν c = some (.n y)) (h : f x y = b) : IsSo ν (.bin o k a c) b := by
 refine ⟨_, den_bin.2 ⟨x, y, h1, h2, binZ_cmp (hf x y)⟩, ?_⟩
 rw [h]
 cases b <;> simp
theorem so_lss {k : IntKind} {a c : Tm} {b : Bool} (h : IsSo ν (.bin .lss k a c) b) : ∃ x y, denT ν a = some (.n x) ∧ denT ν c = some (.n y) ∧ decide (x < y) = b := so_cmp (fun _ _ => rfl) h
theorem so_leq {k : IntKind} {a c : Tm} {b : Bool} (h : IsSo ν (.bin .leq k a c) b) : ∃ x y, denT ν a = some (.n x) ∧ denT ν c = some (.n y) ∧ decide (x ≤ y) = b := so_cmp (fun _ _ => rfl) h
theorem so_gtr {k : IntKind} {a c : Tm} {b : Bool} (h : IsSo ν (.bin .gtr k a c) b) : ∃ x y, denT ν a = some (.n x) ∧ denT ν c = some (.n y) ∧ decide (x > y) = b := so_cmp (fun _ _ => rfl) h
theorem so_geq {k : IntKind} {a c : Tm} {b : Bool} (h : IsSo ν (.bin .geq k a c) b) : ∃ x y, denT ν a = some (.n x) ∧ denT ν c = some (.n y) ∧ decide (x ≥ y) = b := so_cmp (fun _ _ => rfl) h
theorem so_eql {k : IntKind} {a c : Tm} {b : Bool} (h : IsSo ν (.bin .eql k a c) b) : ∃ x y, denT ν a = some (.n x) ∧ denT ν c = some (.n y) ∧ decide (x = y) = b := so_cmp (fun _ _ => rfl) h
theorem so_neq {k : IntKind} {a c : Tm} {b : Bool} (h : IsSo ν (.bin .neq k a c) b) : ∃ x y, denT ν a = some (.n x) ∧ denT ν c = some (.n y) ∧ (!decide (x = y)) = b := so_cmp (fun _ _ => rfl) h
theorem so_b01 {t : Tm} {c b : Bool} (h : denT ν t = some (b01 c)) (k : IsSo ν t b) : c = b := by
 obtain ⟨n, h1, h2⟩ := k
 rw [h] at h1
 injection h1 with h1
 rw [← h2]
 exact (dec_b01 c n h1.symm).symm
theorem so_b01_mk {t : Tm} {c b : Bool} (h : denT ν t = some (b01 c)) (k : c = b) : IsSo ν t b := by
 subst k
 exact ⟨_, h, dec_b01 c _ rfl⟩
theorem so_and {a c : Tm} {b : Bool} (h : IsSo ν (AND a c) b) : ∃ p q, IsSo ν a p ∧ IsSo ν c q ∧ (p && q) = b := by
 obtain ⟨n, h1, h2⟩ := h
 obtain ⟨x, y, k1, k2, k3⟩ := den_f5.1 h1
 refine ⟨decide (x ≠ 0), decide (y ≠ 0), so_of k1, so_of k2, ?_⟩
 rw [← so_b01 (h1.trans (by rw [k3])) ⟨n, h1, h2⟩]
 by_cases hx : x = 0 <;> by_cases hy : y = 0 <;> simp [hx, hy]
theorem so_not {a : Tm} {b : Bool} (h : IsSo ν (.f 10 [a]) b) : IsSo ν a (!b) := by
 obtain ⟨n, h1, h2⟩ := h
 obtain ⟨x, k1, k2⟩ := den_f10.1 h1
 have := so_b01 (h1.trans (by rw [k2])) ⟨n, h1, h2⟩
 subst this
 refine ⟨x, k1, ?_⟩
 by_cases hx : x = 0 <;> simp [hx]
theorem den_one {t : Tm} {x y : Int} (h : denT ν t = some (.n x)) (k : denT ν t = some (.n y)) : x = y := by
 rw [h] at k
 injection k with k
 injection k
theorem len_row {t : Tm} {n : Int} (h : denT ν (LEN t) = some (.n n)) : ∃ x m, denT ν t = some x ∧ lenDat x = some m ∧ n = m := by
 obtain ⟨x, m, h1, h2, h3⟩ := den_f0.1 h
 injection h3 with h3
 exact ⟨x, m, h1, h2, h3⟩
theorem den_add {k : IntKind} {a b : Tm} {n : Int} (h : denT ν (.bin .add k a b) = some (.n n)) : ∃ x y, denT ν a = some (.n x) ∧ denT ν b = some (.n y) ∧ n = k.wrap (x + y) := by
 obtain ⟨x, y, h1, h2, h3⟩ := den_bin.1 h
 simp only [binZ, intBinA, Option.some.injEq, Dat.n.injEq] at h3
 exact ⟨x, y, h1, h2, h3.symm⟩
theorem den_sub {k : IntKind} {a b : Tm} {n : Int} (h : denT ν (.bin .sub k a b) = some (.n n)) : ∃ x y, denT ν a = some (.n x) ∧ denT ν b = some (.n y) ∧ n = k.wrap (x - y) := by
 obtain ⟨x, y, h1, h2, h3⟩ := den_bin.1 h
 simp only [binZ, intBinA, Option.some.injEq, Dat.n.injEq] at h3
 exact ⟨x, y, h1, h2, h3.symm⟩
theorem den_mul {k : IntKind} {a b : Tm} {n : Int} (h : denT ν (.bin .mul k a b) = some (.n n)) : ∃ x y, denT ν a = some (.n x) ∧ denT ν b = some (.n y) ∧ n = k.wrap (x * y) := by
 obtain ⟨x, y, h1, h2, h3⟩ := den_bin.1 h
 simp only [binZ, intBinA, Option.some.injEq, Dat.n.injEq] at h3
 exact ⟨x, y, h1, h2, h3.symm⟩
theorem den_convn {k : IntKind} {a : Tm} {n : Int} (h : denT ν (.conv k a) = some (.n n)) : ∃ x, denT ν a = some (.n x) ∧ n = k.wrap x := by
 obtain ⟨x, h1, h2⟩ := den_conv.1 h
 injection h2 with h2
 exact ⟨x, h1, h2⟩
theorem den_c {a n : Int} (h : denT ν (.c a) = some (.n n)) : n = a := by
 simp only [denT, Option.some.injEq, Dat.n.injEq] at h
 exact h.symm
theorem denTs_cons {t : Tm} {l : List Tm} {ds : List Dat} (h : denTs ν (t :: l) = some ds) : ∃ d r, denT ν t = some d ∧ denTs ν l = some r ∧ ds = d :: r := by
 simp only [denTs] at h
 cases h1 : denT ν t with
 | none => rw [h1] at h; cases h
 | some d =>
  cases h2 : denTs ν l with
  | none => rw [h1, h2] at h; cases h
  | some r => rw [h1, h2] at h; injection h with h; exact ⟨d, r, rfl, rfl, h.symm⟩
theorem denTs_nil {ds : List Dat} (h : denTs ν [] = some ds) : ds = [] := by
 simp only [denTs, Option.some.injEq] at h
 exact h.symm
theorem denTs_mk {t : Tm} {l : List Tm} {d : Dat} {r : List Dat} (h1 : denT ν t = some d) (h2 : denTs ν l = some r) : denTs ν (t :: l) = some (d :: r) := by
 simp only [denTs, h1, h2]
theorem den_U {o : Nat} {l : List Tm} {d : Dat} (ho : 100 ≤ o) : denT ν (.f o l) = some d ↔ ∃ ds, denTs ν l = some ds ∧ flatU (progU o ds) = some d := by
 have hlim : limF o = false := by
  unfold limF
  cases h : Nat.beq o 50 with
  | false => rfl
  | true => have := Nat.eq_of_beq_eq_true h; omega
 rw [denT_f hlim]
 unfold stdU
 rw [Nat.ble_eq_true_of_le ho]
theorem i64_in {x : Int} (h1 : -9223372036854775808 ≤ x) (h2 : x ≤ 9223372036854775807) : IntKind.i64.wrap x = x := wrap_in h1 h2
end
def LemIs (e : Lem) : Prop := ∀ ν : Nm, AllSo ν e.hs → ∀ b, IsSo ν e.t b → b = e.b
theorem lemOk_nil : LemOk [] := fun _ h => by cases h
theorem lemOk_cons {e : Lem} {l : List Lem} (h : LemIs e) (k : LemOk l) : LemOk (e :: l) := fun x hx => by
 rcases List.mem_cons.1 hx with rfl | hx
 ·exact fun ν hs n hn => h ν (all_so hs) _ (so_of hn)
 ·exact k x hx
theorem lemOk_append {l m : List Lem} (h : LemOk l) (k : LemOk m) : LemOk (l ++ m) := fun x hx => by
 rcases List.mem_append.1 hx with hx | hx
 ·exact h x hx
 ·exact k x hx
def LemDIs (e : Lem) : Prop := ∀ ν : Nm, AllSo ν e.hs → IsSo ν e.t e.b
theorem lemD_nil : LemD [] := fun _ h => by cases h
theorem lemD_cons {e : Lem} {l : List Lem} (h : LemDIs e) (k : LemD l) : LemD (e :: l) := fun x hx => by
 rcases List.mem_cons.1 hx with rfl | hx
 ·exact fun ν hs => h ν (all_so hs)
 ·exact k x hx
theorem LemDIs.is {e : Lem} (h : LemDIs e) : LemIs e := fun ν hs b hb => by
 obtain ⟨n, h1, h2⟩ := h ν hs
 obtain ⟨m, k1, k2⟩ := hb
 rw [den_one h1 k1] at h2
 rw [← k2, h2]
def TEqIs (e : TEq) : Prop := ∀ ν : Nm, AllSo ν e.hs → ∀ d, denT ν e.b = some d → denT ν e.a = some d
theorem teq_nil : TEqOk [] := fun _ h => by cases h
theorem teq_cons {e : TEq} {l : List TEq} (h : TEqIs e) (k : TEqOk l) : TEqOk (e :: l) := fun x hx => by
 rcases List.mem_cons.1 hx with rfl | hx
 ·exact fun ν hs => h ν (all_so hs)
 ·exact k x hx
theorem teq_append {l m : List TEq} (h : TEqOk l) (k : TEqOk m) : TEqOk (l ++ m) := fun x hx => by
 rcases List.mem_append.1 hx with hx | hx
 ·exact h x hx
 ·exact k x hx
def le300 (t : Tm) : Tm × Bool := (.bin .leq .i64 (LEN t) (.c 300), true)
def lemM1 (t i : Tm) : Lem := ⟨[le300 t, ge0 i, ltLen i t true], .bin .leq .i64 (.c 0) (left t (add1 i)), true⟩
def lemM2 (t i : Tm) : Lem := ⟨[le300 t, ge0 i, ltLen i t true, (.bin .leq .i64 (left t i) lim, true)], .bin .lss .i64 (left t (add1 i)) lim, true⟩
def lemM0 (t i : Tm) : Lem := ⟨[le300 t, ge0 i, leLen i t], .bin .leq .i64 (.c 0) (left t i), true⟩
def lemI (t i : Tm) : Lem := ⟨[le300 t, ge0 i, ltLen i t true], (leLen (add1 i) t).1, true⟩
section
variable {t i : Tm}
theorem tru {p : Prop} [Decidable p] {b : Bool} (h : decide p = b) (hb : b = true) : p := of_decide_eq_true (h.trans hb)
theorem fls {p : Prop} [Decidable p] {b : Bool} (h : decide p = b) (hb : b = false) : ¬p := of_decide_eq_false (h.trans hb)
theorem place_of {ν : Nm} (h1 : IsSo ν (le300 t).1 (le300 t).2) (h2 : IsSo ν (ge0 i).1 (ge0 i).2) : ∃ d l x, denT ν t = some d ∧ lenDat d = some l ∧ l ≤ 300 ∧ denT ν (LEN t) = some (.n l) ∧ denT ν i = some (.n x) ∧ 0 ≤ x := by
 obtain ⟨l, c, a1, a2, a3⟩ := so_leq h1
 obtain ⟨x, c0, b1, b2, b3⟩ := so_geq h2
 have e1 := den_c a2
 have e2 := den_c b2
 obtain ⟨d, m, k1, k2, k3⟩ := len_row a1
 have g1 := tru a3 rfl
 have g2 := tru b3 rfl
 subst k3 e1 e2
 exact ⟨d, m, x, k1, k2, by omega, a1, b1, g2⟩
theorem lt_of {ν : Nm} {b : Bool} {l x : Int} (h : IsSo ν (ltLen i t b).1 b) (hl : denT ν (LEN t) = some (.n l)) (hx : denT ν i = some (.n x)) : decide (x < l) = b := by
 obtain ⟨x', l', c1, c2, c3⟩ := so_lss h
 rw [den_one hx c1, den_one hl c2]
 exact c3
theorem le_of {ν : Nm} {l x : Int} (h : IsSo ν (leLen i t).1 (leLen i t).2) (hl : denT ν (LEN t) = some (.n l)) (hx : denT ν i = some (.n x)) : x ≤ l := by
 obtain ⟨x', l', c1, c2, c3⟩ := so_leq h
 rw [den_one hx c1, den_one hl c2]
 exact tru c3 rfl
theorem add1_den {ν : Nm} {x n : Int} (hx : denT ν i = some (.n x)) (h0 : 0 ≤ x) (h1 : x ≤ 1000000) (h : denT ν (add1 i) = some (.n n)) : n = x + 1 := by
 obtain ⟨x3, o, f1, f2, f3⟩ := den_add h
 have := den_one hx f1
 have := den_c f2
 subst_vars
 exact i64_in (by omega) (by omega)
theorem add1_mk {ν : Nm} {x : Int} (hx : denT ν i = some (.n x)) (h0 : 0 ≤ x) (h1 : x ≤ 1000000) : denT ν (add1 i) = some (.n (x + 1)) := by
 refine den_bin.2 ⟨x, 1, hx, rfl, ?_⟩
 show some (Dat.n (IntKind.i64.wrap (x + 1))) = _
 rw [i64_in (by omega) (by omega)]
theorem left_den {ν : Nm} {x l n : Int} (hl : denT ν (LEN t) = some (.n l)) (hx : denT ν i = some (.n x)) (h0 : 0 ≤ x) (h1 : x ≤ 1000000) (h2 : 0 ≤ l) (h3 : l ≤ 1000000) (h : denT ν (left t i) = some (.n n)) : n = l - x := by
 obtain ⟨x3, o, f1, f2, f3⟩ := den_sub h
 have := den_one hl f1
 have := den_one hx f2
 subst_vars
 exact i64_in (by omega) (by omega)
theorem lemM1_is : LemIs (lemM1 t i) := fun ν hs b hb => by
 obtain ⟨h1, h2, h3, _⟩ := hs
 obtain ⟨d, l, x, _, _, k1, k2, k3, k4⟩ := place_of h1 h2
 have k5 := tru (lt_of h3 k2 k3) rfl
 obtain ⟨z, y, d1, d2, d3⟩ := so_leq hb
 obtain ⟨l2, x2, e1, e2, e3⟩ := den_sub d2
 have q1 := add1_den k3 k4 (by omega) e2
 subst q1
 have q2 := left_den k2 e2 (by omega) (by omega) (by omega) (by omega) d2
 have q3 := den_c d1
 subst q2 q3
 rw [← d3]
 exact decide_eq_true (by omega)
theorem lemM2_is : LemIs (lemM2 t i) := fun ν hs b hb => by
 obtain ⟨h1, h2, h3, h4, _⟩ := hs
 obtain ⟨d, l, x, _, _, k1, k2, k3, k4⟩ := place_of h1 h2
 have k5 := tru (lt_of h3 k2 k3) rfl
 obtain ⟨z, y, d1, d2, d3⟩ := so_lss hb
 obtain ⟨l2, x2, e1, e2, e3⟩ := den_sub d1
 have q1 := add1_den k3 k4 (by omega) e2
 subst q1
 have q2 := left_den k2 e2 (by omega) (by omega) (by omega) (by omega) d1
 obtain ⟨z', y', c1, c2, c3⟩ := so_leq h4
 have q3 := left_den k2 k3 k4 (by omega) (by omega) (by omega) c1
 have q4 := den_one d2 c2
 have q5 := tru c3 rfl
 subst q2 q3 q4
 rw [← d3]
 exact decide_eq_true (by omega)
theorem lemM0_is : LemIs (lemM0 t i) := fun ν hs b hb => by
 obtain ⟨h1, h2, h3, _⟩ := hs
 obtain ⟨d, l, x, _, _, k1, k2, k3, k4⟩ := place_of h1 h2
 have k5 := le_of h3 k2 k3
 obtain ⟨z, y, d1, d2, d3⟩ := so_leq hb
 have q2 := left_den k2 k3 k4 (by omega) (by omega) (by omega) d2
 have q3 := den_c d1
 subst q2 q3
 rw [← d3]
 exact decide_eq_true (by omega)
theorem lemI_is : LemIs (lemI t i) := fun ν hs b hb => by
 obtain ⟨h1, h2, h3, _⟩ := hs
 obtain ⟨d, l, x, _, _, k1, k2, k3, k4⟩ := place_of h1 h2
 have k5 := tru (lt_of h3 k2 k3) rfl
 obtain ⟨z, y, d1, d2, d3⟩ := so_leq hb
 have q1 := add1_den k3 k4 (by omega) d1
 have q2 := den_one k2 d2
 subst q1 q2
 rw [← d3]
 exact decide_eq_true (by omega)
end
end Go.Proofs.YtcjbpaiomcfgnaaGreatDoor
namespace Go.Proofs.YtcjbpaiomcfgnaaGreatDoor
open Go Go.RowKit
variable {P : Program} {l : List (Nat × Nat × Nat)} {ptab : List PEnt}
def prN (l : List (Nat × Nat × Nat)) (ptab : List PEnt) : Pr := ⟨l, [], ptab, [], [], []⟩
theorem prOk_tab {U : Int} (hP : PrimOkL P l) {tab : List Ent} (hT : TabOk P (AnyOk P U) U tab) (hPT : PTabOk P ptab) : PrOk P U ⟨l, tab, ptab, [], [], []⟩ := ⟨hP.of, fun _ h => (by cases h), hT, hPT, lt_nil⟩
theorem prOk_N {U : Int} (hP : PrimOkL P l) (hPT : PTabOk P ptab) : PrOk P U (prN l ptab) := prOk_tab hP tab_nil hPT
theorem prN_loop {z : Loc} {r : Option Nat} {T : Tr AV} {N : Nat} {M : List Nat} {s : St} : knownLoop (prN l ptab) z r T N M s = none := by
 unfold knownLoop
 split
 ·rfl
 ·rfl
def itL (P : Program) (prims : Pr) (m : Nat) (z : Loc) (r : Option Nat) (c : Code) (N : Nat) (k : Nat) : Tr AV → List Nat → St → Option (Tr AV × List Nat × St) :=
 Nat.rec (fun T M s => some (T, M, s)) (fun k ih T M s => match eval P prims (m + k) (.code (z.go false) r c T N M s) with
  | some [o] => match o.e with
   | .norm => ih o.T o.M o.s
   | _ => none
  | _ => none) k
theorem itL_loop {m : Nat} {z : Loc} {r : Option Nat} {c : Code} {N : Nat} : ∀ (k : Nat) {T T' : Tr AV} {M M' : List Nat} {s s' : St}, itL P (prN l ptab) m z r c N k T M s = some (T', M', s') →
  eval P (prN l ptab) (m + k) (.code z r (.loop c) T N M s) = eval P (prN l ptab) m (.code z r (.loop c) T' N M' s')
 | 0, _, _, _, _, _, _, h => by
  injection h with h
  injection h with h1 h
  injection h with h2 h3
  subst h1 h2 h3
  rfl
 | k + 1, T, T', M, M', s, s', h => by
  have h' : (match eval P (prN l ptab) (m + k) (.code (z.go false) r c T N M s) with
   | some [o] => match o.e with
    | .norm => itL P (prN l ptab) m z r c N k o.T o.M o.s
    | _ => none
   | _ => none) = some (T', M', s') := h
  show evCode P (prN l ptab) (eval P (prN l ptab) (m + k)) z r (.loop c) T N M s = _
  unfold evCode
  simp only [prN_loop]
  split at h'
  ·rename_i o ho
   split at h'
   ·rename_i he
    rw [ho]
    simp only [bindO, he]
    exact itL_loop k h'
   ·cases h'
  ·cases h'
theorem seq_eq {prims : Pr} {n : Nat} {z : Loc} {r : Option Nat} {x y : Code} {T : Tr AV} {N : Nat} {M : List Nat} {s : St} {o : Out} (h : eval P prims n (.code (z.go false) r x T N M s) = some [o]) (he : o.e = .norm) :
  eval P prims (n + 1) (.code z r (.seq x y) T N M s) = eval P prims n (.code (z.go true) r y o.T N o.M o.s) := by
 show evCode P prims (eval P prims n) z r (.seq x y) T N M s = _
 unfold evCode
 simp only
 rw [h]
 simp only [bindO, he]
theorem block_eq {prims : Pr} {n id : Nat} {z : Loc} {r : Option Nat} {c : Code} {T : Tr AV} {N : Nat} {M : List Nat} {s : St} {o : Out} (h : eval P prims n (.code (z.go false) r c T N M s) = some [o]) (he : o.e = .exit id) :
  eval P prims (n + 1) (.code z r (.block id c) T N M s) = norm1 o.T o.M o.s := by
 show evCode P prims (eval P prims n) z r (.block id c) T N M s = _
 unfold evCode
 simp only
 rw [h]
 have : Nat.beq id id = true := by simp
 simp only [bindO, he, this]
theorem call_eq {prims : Pr} {n f : Nat} {fn : Func} {c : Code} {args : List AV} {s : St} {l : List Out} (h1 : P.funcs[f]? = some fn) (h2 : fn.body = some c) (hb : eval P prims n (.code (some (f, [])) none c (argsA args 0 .e) fn.ntmps [] s) = some l) :
  eval P prims (n + 1) (.call f args s) = evCall P prims (fun _ => some l) f args s := by
 show evCall P prims (eval P prims n) f args s = _
 unfold evCall
 simp only [h1, h2, hb]
theorem okPEntG_of {pr : Pr} {n : Nat} {e : PEnt} {outs : List Out} (h : eval P pr n (.call e.f e.args ⟨.e, 0, [], ⟨e.gl, []⟩⟩) = some outs)
  (ho : (closedL e.args && closedV e.v && glOk e.gl && outs.all fun o => eqV o.v e.v) = true) : okPEntG P pr n e = true := by
 unfold okPEntG
 rw [h]
 exact ho
end Go.Proofs.YtcjbpaiomcfgnaaGreatDoor
namespace Go.Proofs.YtcjbpaiomcfgnaaGreatDoor
open Go Go.RowKit
theorem laid_mem {P : Program} {W : World} {n : String} {d : DataW Unit} : ∀ {laid : List (String × DataW Unit)} {ps : List MemPlace}, DataW.LaidVars P W laid ps → (n, d) ∈ laid →
  ∃ g t cs fuel p, P.globalNamed n = some g ∧ (P.globals[g]?).map (·.type) = some t ∧ W.var? P n = some cs ∧ DataW.trod (fun _ => ()) P W 0 (fun _ => true) false fuel t cs.toList = some (d, p)
 | [], _, _, hm => by cases hm
 | (m, e) :: r, ps, h, hm => by
  obtain ⟨g, t, cs, fuel, p, q, h1, h2, h3, h4, h5, _⟩ := h
  rcases List.mem_cons.1 hm with e' | hm
  ·simp only [Prod.mk.injEq] at e'
   obtain ⟨rfl, rfl⟩ := e'
   exact ⟨g, t, cs, fuel, p, h1, h2, h3, h4⟩
  ·exact laid_mem h5 hm
theorem ints_cells {H : Type} {enc : TypeId × Value → H} {P : Program} {w : World} {base : Nat} {spare : Nat → Bool} {held : Bool} {fuel : Nat} {t e : TypeId} {len : Nat} {k : IntKind} {cs : List Value} {ns : List Int} {p : List MemPlace}
  (ht : P.underlying t = some (.array len e)) (he : P.underlying e = some (.int k)) (hc : P.cellsOf e = 1)
  (h : DataW.trod enc P w base spare held fuel t cs = some (.agg (ns.map fun n => .lit (.int k n)), p)) {i : Nat} {n : Int} (hi : ns[i]? = some n) : cs[i]? = some (.int k n) := by
 obtain ⟨xs, m, rfl, hx, hlen, hn, hel⟩ := DataW.trod_array ht h
 simp only [Prod.mk.injEq, DataW.agg.injEq] at hx
 have hl : xs.length = ns.length := by
  have := congrArg List.length hx.1
  simpa using this.symm
 have hlt : i < ns.length := (List.getElem?_eq_some_iff.1 hi).1
 have hx0 := hel i (by omega)
 have hxi : xs[i]? = some xs[i] := List.getElem?_eq_getElem (by omega)
 rw [hxi, hc] at hx0
 obtain ⟨r, e1, e2, _⟩ := DataW.trod_int he hx0
 have h1 : (xs.map (·.1))[i]? = some (.lit (.int k n)) := by rw [← hx.1, List.getElem?_map, hi]; rfl
 rw [List.getElem?_map, hxi, e2] at h1
 simp only [Option.map_some, Option.some.injEq, DataW.lit.injEq, Lit.int.injEq, true_and] at h1
 subst h1
 have h2 := congrArg (fun l => l[0]?) e1
 simpa [List.getElem?_take, List.getElem?_drop] using h2
theorem globOk_ints {P : Program} {W : World} {laid : List (String × DataW Unit)} {n : String} {g : Nat} {t e : TypeId} {len : Nat} {k : IntKind} {ns : List Int} {ν : Nm}
  (h : laidMetH P laid W) (hp : (laid.all fun x => x.2.handleName?.isNone) = true) (hm : (n, .agg (ns.map fun n => .lit (.int k n))) ∈ laid)
  (hg : P.globalNamed n = some g) (hty : (P.globals[g]?).map (·.type) = some t) (ht : P.underlying t = some (.array len e)) (he : P.underlying e = some (.int k)) (hc : P.cellsOf e = 1) :
  GlobOk ν [(g, ns.map fun n => .int k n)] W := by
 rw [MakeChecks.laidMetH_plain _ _ _ hp] at h
 obtain ⟨ps, h1, _⟩ := h
 obtain ⟨g', t', cs, fuel, p, k1, k2, k3, k4⟩ := laid_mem h1 hm
 obtain rfl := Option.some.inj (hg.symm.trans k1)
 obtain rfl := Option.some.inj (hty.symm.trans k2)
 intro g2 l hl i v hv
 simp only [List.mem_singleton, Prod.mk.injEq] at hl
 obtain ⟨rfl, rfl⟩ := hl
 rw [List.getElem?_map] at hv
 cases hi : ns[i]? with
 | none => rw [hi] at hv; cases hv
 | some x =>
  rw [hi] at hv
  simp only [Option.map_some, Option.some.injEq] at hv
  subst hv
  refine ⟨.int k x, rfl, ?_⟩
  rw [World.var?_cell hg k3 i]
  simpa using ints_cells ht he hc k4 hi
end Go.Proofs.YtcjbpaiomcfgnaaGreatDoor
namespace Go.Proofs.YtcjbpaiomcfgnaaGreatDoor
open Go.ChangeShapes Go.WideShapes Go.ChangeAt Go.RowKit
def flatPairs (F : TypeId → Option (List TypeId)) : Nat → List (Nat × TypeId) → Option (List TypeId)
 | _, [] => some []
 | off, (o, t) :: r => if o = off then (F t).bind fun a => (flatPairs F (off + a.length) r).map (a ++ ·) else none
def flatOf (P : Program) : Nat → TypeId → Option (List TypeId)
 | 0, _ => none
 | n + 1, t => (match P.underlying t with
  | some (.struct fs) => flatPairs (flatOf P n) 0 (fs.toList.map fun (f : Field) => (f.offset, f.type))
  | some (.array m e) => flatPairs (flatOf P n) 0 ((List.range m).map fun i => (i * P.cellsOf e, e))
  | some _ => some [t]
  | none => none).bind fun ts => if ts.length = P.cellsOf t then some ts else none
theorem flatOf_len {P : Program} {n : Nat} {t : TypeId} {ts : List TypeId} (h : flatOf P n t = some ts) : ts.length = P.cellsOf t := by
 cases n with
 | zero => simp [flatOf] at h
 | succ n =>
  unfold flatOf at h
  rw [Option.bind_eq_some_iff] at h
  obtain ⟨a, _, h⟩ := h
  split at h
  ·injection h with h
   subst h
   assumption
  ·cases h
section
variable {H : Type} {enc : TypeId × Value → H} {P : Program} {w : World}
def Leaf (enc : TypeId × Value → H) (P : Program) (w : World) (c : Value) (t : TypeId) : Prop := ∃ fuel x, DataW.trod enc P w 0 (fun _ => true) true fuel t [c] = some x
theorem trod_array' {fuel : Nat} {t : TypeId} {cs : List Value} {x : DataW H × List MemPlace} {m : Nat} {e : TypeId} (ht : P.underlying t = some (.array m e)) (h : DataW.trod enc P w 0 (fun _ => true) true fuel t cs = some x) :
  ∃ n, cs.length = P.cellsOf t ∧ ∀ i, i < m → ∃ y, DataW.trod enc P w 0 (fun _ => true) true n e ((cs.drop (i * P.cellsOf e)).take (P.cellsOf e)) = some y := by
 cases fuel with
 | zero => simp [DataW.trod] at h
 | succ n =>
  unfold DataW.trod at h
  rw [ht] at h
  split at h <;> simp_all
  obtain ⟨hl, xs, hp, hd⟩ := h
  refine ⟨n, fun i hi => ?_⟩
  have h1 := mapM_some_length hp
  have h2 := mapM_some_get hp i i (by simp [hi])
  simp at h1
  rw [List.getElem?_eq_getElem (by omega)] at h2
  exact ⟨xs[i].1, xs[i].2, h2⟩
theorem flatPairs_opens {F : TypeId → Option (List TypeId)} {cs : List Value} (hF : ∀ t a, F t = some a → a.length = P.cellsOf t ∧ ∀ fuel ds x, DataW.trod enc P w 0 (fun _ => true) true fuel t ds = some x → All2 (Leaf enc P w) ds a) :
  ∀ (r : List (Nat × TypeId)) (off : Nat) (ts : List TypeId), flatPairs F off r = some ts → (∀ p ∈ r, ∃ n y, DataW.trod enc P w 0 (fun _ => true) true n p.2 ((cs.drop p.1).take (P.cellsOf p.2)) = some y) →
   cs.length = off + ts.length → All2 (Leaf enc P w) (cs.drop off) ts
 | [], off, ts, h, _, hl => by
  simp [flatPairs] at h
  subst h
  rw [List.drop_of_length_le (by simp at hl; omega)]
  trivial
 | (o, t) :: r, off, ts, h, hr, hl => by
  unfold flatPairs at h
  split at h
  ·rename_i ho
   subst ho
   rw [Option.bind_eq_some_iff] at h
   obtain ⟨a, ha, h⟩ := h
   rw [Option.map_eq_some_iff] at h
   obtain ⟨b, hb, rfl⟩ := h
   obtain ⟨h1, h2⟩ := hF t a ha
   obtain ⟨n, y, hy⟩ := hr (o, t) (by simp)
   have h3 := h2 _ _ _ hy
   rw [← h1] at h3
   have h4 := flatPairs_opens hF r (o + a.length) b hb (fun p hp => hr p (by simp [hp])) (by simp at hl; omega)
   have := All2.append h3 h4
   rw [← List.drop_drop, List.take_append_drop] at this
   exact this
  ·cases h
theorem trod_one {fuel : Nat} {t : TypeId} {cs : List Value} {x : DataW H × List MemPlace} {d : TypeDesc} (ht : P.underlying t = some d) (h1 : ∀ fs, d ≠ .struct fs) (h2 : ∀ m e, d ≠ .array m e) (h : DataW.trod enc P w 0 (fun _ => true) true fuel t cs = some x) : ∃ c, cs = [c] := by
 cases fuel with
 | zero => simp [DataW.trod] at h
 | succ n =>
  unfold DataW.trod at h
  rw [ht] at h
  split at h <;> first | exact ⟨_, rfl⟩ | (rename_i e _; injection e with e; exact absurd e (h1 _)) | (rename_i e _; injection e with e; exact absurd e (h2 _ _)) | simp_all
theorem flat_opens : ∀ (n : Nat) (t : TypeId) (ts : List TypeId), flatOf P n t = some ts → ∀ fuel cs x, DataW.trod enc P w 0 (fun _ => true) true fuel t cs = some x → All2 (Leaf enc P w) cs ts
 | 0, _, _, h => by simp [flatOf] at h
 | n + 1, t, ts, h => by
  intro fuel cs x hx
  have hlen := flatOf_len h
  unfold flatOf at h
  rw [Option.bind_eq_some_iff] at h
  obtain ⟨a, h, h'⟩ := h
  split at h'
  ·injection h' with h'
   subst h'
   have hF : ∀ t a, flatOf P n t = some a → a.length = P.cellsOf t ∧ ∀ fuel ds x, DataW.trod enc P w 0 (fun _ => true) true fuel t ds = some x → All2 (Leaf enc P w) ds a := fun t a ha => ⟨flatOf_len ha, flat_opens n t a ha⟩
   split at h
   ·rename_i fs hu
    obtain ⟨xs, m, _, _, hl, hxs, hf⟩ := DataW.trod_struct hu hx
    have := flatPairs_opens (cs := cs) hF _ 0 a h (fun p hp => by
     obtain ⟨f, hm, rfl⟩ := List.mem_map.1 hp
     obtain ⟨i, hi⟩ := List.getElem?_of_mem hm
     have h1 := hf i f (by simpa using hi)
     have h2 : i < fs.size := by have := (List.getElem?_eq_some_iff.1 hi).1; simpa using this
     rw [List.getElem?_eq_getElem (by omega)] at h1
     exact ⟨m, _, h1⟩) (by omega)
    simpa using this
   ·rename_i m e hu
    obtain ⟨k, hl, hf⟩ := trod_array' hu hx
    have := flatPairs_opens (cs := cs) hF _ 0 a h (fun p hp => by
     obtain ⟨i, hm, rfl⟩ := List.mem_map.1 hp
     obtain ⟨y, hy⟩ := hf i (by simpa using hm)
     exact ⟨k, y, hy⟩) (by omega)
    simpa using this
   ·rename_i d h1 h2 hu
    injection h with h
    subst h
    obtain ⟨c, rfl⟩ := trod_one hu h1 h2 hx
    exact ⟨⟨fuel, x, hx⟩, trivial⟩
   ·cases h
  ·cases h'
theorem Leaf.int {c : Value} {t : TypeId} {k : IntKind} (h : Leaf enc P w c t) (ht : P.underlying t = some (.int k)) : ∃ n, c = .int k n ∧ (Lit.int k n).wf = true := by
 obtain ⟨fuel, x, h⟩ := h
 obtain ⟨n, e, _, hw⟩ := DataW.trod_int ht h
 exact ⟨n, by simpa using e, hw⟩
structure Opn {α : Type} (P : Program) (R : Rp α) (t : TypeId) (ok : α → Prop) : Prop where
 cells : P.cellsOf t = R.size
 opens : ∀ {H : Type} {enc : TypeId × Value → H} {w : World} {fuel : Nat} {cs : List Value} {x : DataW H × List MemPlace}, DataW.trod enc P w 0 (fun _ => true) true fuel t cs = some x → ∃ m, R.at_ w (fun _ => True) cs m ∧ ok m
theorem Opn.int {t : TypeId} {k : IntKind} (ht : P.underlying t = some (.int k)) (hc : P.cellsOf t = 1) : Opn P (Rp.int k) t (fun n => (Lit.int k n).wf = true) :=
 ⟨hc, fun h => by
  obtain ⟨n, rfl, _, hw⟩ := DataW.trod_int ht h
  exact ⟨n, rfl, hw⟩⟩
theorem gather {α β : Type} {Q : Nat → α → β → Prop} : ∀ (n : Nat), (∀ i, i < n → ∃ a b, Q i a b) → ∃ (as : List α) (bs : List β), as.length = n ∧ bs.length = n ∧ ∀ (i : Nat) a b, as[i]? = some a → bs[i]? = some b → Q i a b
 | 0, _ => ⟨[], [], rfl, rfl, by simp⟩
 | n + 1, h => by
  obtain ⟨as, bs, ha, hb, hq⟩ := gather n (fun i hi => h i (by omega))
  obtain ⟨a, b, hab⟩ := h n (by omega)
  refine ⟨as ++ [a], bs ++ [b], by simp [ha], by simp [hb], fun i x y hx hy => ?_⟩
  by_cases hi : i < n
  ·rw [List.getElem?_append_left (by omega)] at hx hy
   exact hq i x y hx hy
  ·have : i = n := by have := (List.getElem?_eq_some_iff.1 hx).1; simp [ha] at this; omega
   subst this
   rw [List.getElem?_append_right (by omega)] at hx hy
   simp [ha, hb] at hx hy
   subst hx hy
   exact hab
theorem All2.of_get {α β : Type} {R : α → β → Prop} : ∀ {as : List α} {bs : List β}, as.length = bs.length → (∀ (i : Nat) a b, as[i]? = some a → bs[i]? = some b → R a b) → All2 R as bs
 | [], [], _, _ => trivial
 | a :: as, b :: bs, hl, h => ⟨h 0 a b rfl rfl, All2.of_get (by simpa using hl) fun i x y hx hy => h (i + 1) x y (by simpa using hx) (by simpa using hy)⟩
 | [], _ :: _, hl, _ => by simp at hl
 | _ :: _, [], hl, _ => by simp at hl
theorem flatten_at {size : Nat} : ∀ {css : List (List Value)}, (∀ cs ∈ css, cs.length = size) → ∀ {j : Nat} {u : Value}, css.flatten[j]? = some u → ∃ i k cs, css[i]? = some cs ∧ cs[k]? = some u ∧ j = i * size + k
 | [], _, _, _, h => by simp at h
 | c :: css, hc, j, u, h => by
  rw [List.flatten_cons] at h
  have h0 := hc c (by simp)
  by_cases hj : j < c.length
  ·rw [List.getElem?_append_left hj] at h
   exact ⟨0, j, c, rfl, h, by simp⟩
  ·rw [List.getElem?_append_right (by omega)] at h
   obtain ⟨i, k, cs, h1, h2, h3⟩ := flatten_at (fun cs hm => hc cs (by simp [hm])) h
   exact ⟨i + 1, k, cs, by simpa using h1, h2, by rw [Nat.add_mul]; omega⟩
theorem Opn.slice {α : Type} {R : Rp α} {ok : α → Prop} {t e : TypeId} (ht : P.underlying t = some (.slice e)) (hc : P.cellsOf t = 1) (h : Opn P R e ok) : Opn P R.slice t (fun l => l.length ≤ maxLen ∧ ∀ x ∈ l, ok x) := by
 refine ⟨hc, fun {H enc w fuel cs x} hx => ?_⟩
 rcases DataW.trod_slice ht hx with ⟨rfl, _⟩ | ⟨a, len, cap, elems, rest, n, _, rfl, _, _, hl, hm, hlen, hel, _, _⟩
 ·exact ⟨[], Rp.slice_nil, by simp [maxLen], by simp⟩
 ·rw [h.cells] at hel
  have he : ∀ i, i < len → ∃ cs m, (∀ k u, cs[k]? = some u → w.cell? (a.add (i * R.size + k)) = some u) ∧ R.at_ w (fun _ => True) cs m ∧ ok m := fun i hi => by
   have h1 := hel i hi
   rw [List.getElem?_eq_getElem (by omega), Option.bind_eq_some_iff] at h1
   obtain ⟨cs, hcs, hy⟩ := h1
   obtain ⟨m, hm1, hm2⟩ := h.opens hy
   refine ⟨cs, m, fun k u hu => ?_, hm1, hm2⟩
   obtain ⟨_, c2, c3⟩ := World.cells?_some hcs
   have hk := (List.getElem?_eq_some_iff.1 hu).1
   have := c3 k (by omega)
   rw [add_of_add] at this
   rw [this, hu]
  obtain ⟨css, l, h1, h2, h3⟩ := gather len he
  have hr : R.rows w (fun _ => True) css l := All2.of_get (by omega) fun i c m hc hm => (h3 i c m hc hm).2.1
  refine ⟨l, ⟨some a, cap, css, by rw [h2], by omega, hr, ⟨by rw [flatten_len (Rp.rows_len hr), h1, h2], fun _ => ⟨a, rfl, trivial, fun j u hu => ?_⟩⟩⟩, by omega, fun x hx => ?_⟩
  ·obtain ⟨i, k, cs, e1, e2, rfl⟩ := flatten_at (Rp.rows_len hr) hu
   have hi : i < l.length := by have := (List.getElem?_eq_some_iff.1 e1).1; omega
   exact (h3 i cs _ e1 (List.getElem?_eq_getElem hi)).1 k u e2
  ·obtain ⟨i, hi⟩ := List.getElem?_of_mem hx
   have hi' : i < css.length := by have := (List.getElem?_eq_some_iff.1 hi).1; omega
   exact (h3 i _ x (List.getElem?_eq_getElem hi') hi).2.2
end
end Go.Proofs.YtcjbpaiomcfgnaaGreatDoor
namespace Go.Proofs.YtcjbpaiomcfgnaaGreatDoor
open Go.ChangeShapes Go.WideShapes Go.ChangeAt Go.RowKit
section
variable {H : Type} {enc : TypeId × Value → H} {P : Program} {w : World}
end
end Go.Proofs.YtcjbpaiomcfgnaaGreatDoor
namespace Go.Proofs.YtcjbpaiomcfgnaaGreatDoor
open Go.ChangeShapes Go.WideShapes Go.ChangeAt Go.RowKit
section
variable {H : Type} {enc : TypeId × Value → H} {P : Program} {w : World} {B : Nat}
def LeafW (enc : TypeId × Value → H) (P : Program) (w : World) (B : Nat) (c : Value) (t : TypeId) : Prop := ∃ fuel x, DataW.trod enc P w 0 (fun _ => true) true fuel t [c] = some x ∧ (∀ n ∈ x.1.weights P t, n ≤ B)
theorem LeafW.leaf {c : Value} {t : TypeId} (h : LeafW enc P w B c t) : Leaf enc P w c t := by
 obtain ⟨fuel, x, h, _⟩ := h
 exact ⟨fuel, x, h⟩
theorem weightsEach_mem {ts : List TypeId} {ds : List (DataW H)} {i : Nat} {t : TypeId} {d : DataW H} (ht : ts[i]? = some t) (hd : ds[i]? = some d) : ∀ n ∈ d.weights P t, n ∈ DataW.weightsEach P ts ds := by
 induction ts generalizing ds i with
 | nil => simp at ht
 | cons a ts ih =>
  cases ds with
  | nil => simp at hd
  | cons b ds =>
   intro n hn
   simp only [DataW.weightsEach, List.mem_append]
   cases i with
   | zero =>
    simp only [List.getElem?_cons_zero, Option.some.injEq] at ht hd
    subst ht hd
    exact .inl hn
   | succ i => exact .inr (ih (by simpa using ht) (by simpa using hd) n hn)
theorem flatPairs_opensW {F : TypeId → Option (List TypeId)} {cs : List Value} (hF : ∀ t a, F t = some a → a.length = P.cellsOf t ∧ ∀ fuel ds x, DataW.trod enc P w 0 (fun _ => true) true fuel t ds = some x → (∀ n ∈ x.1.weights P t, n ≤ B) → All2 (LeafW enc P w B) ds a) :
  ∀ (r : List (Nat × TypeId)) (off : Nat) (ts : List TypeId), flatPairs F off r = some ts → (∀ p ∈ r, ∃ n y, DataW.trod enc P w 0 (fun _ => true) true n p.2 ((cs.drop p.1).take (P.cellsOf p.2)) = some y ∧ (∀ n ∈ y.1.weights P p.2, n ≤ B)) →
   cs.length = off + ts.length → All2 (LeafW enc P w B) (cs.drop off) ts
 | [], off, ts, h, _, hl => by
  simp [flatPairs] at h
  subst h
  rw [List.drop_of_length_le (by simp at hl; omega)]
  trivial
 | (o, t) :: r, off, ts, h, hr, hl => by
  unfold flatPairs at h
  split at h
  ·rename_i ho
   subst ho
   rw [Option.bind_eq_some_iff] at h
   obtain ⟨a, ha, h⟩ := h
   rw [Option.map_eq_some_iff] at h
   obtain ⟨b, hb, rfl⟩ := h
   obtain ⟨h1, h2⟩ := hF t a ha
   obtain ⟨n, y, hy, hw⟩ := hr (o, t) (by simp)
   have h3 := h2 _ _ _ hy hw
   rw [← h1] at h3
   have h4 := flatPairs_opensW hF r (o + a.length) b hb (fun p hp => hr p (by simp [hp])) (by simp at hl; omega)
   have := All2.append h3 h4
   rw [← List.drop_drop, List.take_append_drop] at this
   exact this
  ·cases h
def noArr (P : Program) : Nat → TypeId → Bool
 | 0, _ => false
 | n + 1, t => match P.underlying t with
  | some (.struct fs) => fs.toList.all fun (f : Field) => noArr P n f.type
  | some (.array _ _) => false
  | some _ => true
  | none => false
theorem flat_opensW : ∀ (n : Nat) (t : TypeId) (ts : List TypeId), flatOf P n t = some ts → noArr P n t = true → ∀ fuel cs x, DataW.trod enc P w 0 (fun _ => true) true fuel t cs = some x → (∀ n ∈ x.1.weights P t, n ≤ B) → All2 (LeafW enc P w B) cs ts
 | 0, _, _, h => by simp [flatOf] at h
 | n + 1, t, ts, h => by
  intro hna fuel cs x hx hwt
  have hlen := flatOf_len h
  unfold flatOf at h
  unfold noArr at hna
  rw [Option.bind_eq_some_iff] at h
  obtain ⟨a, h, h'⟩ := h
  split at h'
  ·injection h' with h'
   subst h'
   split at h
   ·rename_i fs hu
    rw [hu] at hna
    simp only at hna
    obtain ⟨xs, m, _, hx2, hl, hxs, hf⟩ := DataW.trod_struct hu hx
    subst hx2
    have := flatPairs_opensW (enc := enc) (w := w) (B := B) (F := fun t => if noArr P n t = true then flatOf P n t else none) (cs := cs) (fun t a ha => by
     split at ha
     ·rename_i hn
      exact ⟨flatOf_len ha, flat_opensW n t a ha hn⟩
     ·cases ha) (fs.toList.map fun (f : Field) => (f.offset, f.type)) 0 a ?_ (fun p hp => by
     obtain ⟨f, hm, rfl⟩ := List.mem_map.1 hp
     obtain ⟨i, hi⟩ := List.getElem?_of_mem hm
     have h1 := hf i f (by simpa using hi)
     have h2 : i < fs.size := by have := (List.getElem?_eq_some_iff.1 hi).1; simpa using this
     rw [List.getElem?_eq_getElem (by omega)] at h1
     refine ⟨m, _, h1, fun k hk => hwt k ?_⟩
     simp only [DataW.weights, hu]
     refine weightsEach_mem (i := i) (t := f.type) (d := (xs[i]'(by omega)).1) (by simp [hi]) ?_ k hk
     simp [List.getElem?_eq_getElem (show i < xs.length by omega)]) (by omega)
    ·simpa using this
    ·have key : ∀ (l : List Field) (off : Nat) (b : List TypeId), (l.all fun (f : Field) => noArr P n f.type) = true → flatPairs (flatOf P n) off (l.map fun (f : Field) => (f.offset, f.type)) = some b → flatPairs (fun t => if noArr P n t = true then flatOf P n t else none) off (l.map fun (f : Field) => (f.offset, f.type)) = some b := by
      intro l
      induction l with
      | nil => intro off b _ h; exact h
      | cons f l ih =>
       intro off b hall h
       simp only [List.all_cons, Bool.and_eq_true] at hall
       simp only [List.map_cons, flatPairs] at h ⊢
       split at h
       ·rename_i ho
        rw [if_pos ho, if_pos hall.1]
        rw [Option.bind_eq_some_iff] at h ⊢
        obtain ⟨a, ha, h⟩ := h
        refine ⟨a, ha, ?_⟩
        rw [Option.map_eq_some_iff] at h ⊢
        obtain ⟨c, hc, h⟩ := h
        exact ⟨c, ih _ _ hall.2 hc, h⟩
       ·cases h
     exact key fs.toList 0 a hna h
   ·rename_i m e hu
    rw [hu] at hna
    cases hna
   ·rename_i d h1 h2 hu
    injection h with h
    subst h
    obtain ⟨c, rfl⟩ := trod_one hu h1 h2 hx
    exact ⟨⟨fuel, x, hx, hwt⟩, trivial⟩
   ·cases h
  ·cases h'
def numC : Value → Dat
 | .int _ n => .n n
 | _ => .n 0
def isIntT (P : Program) (t : TypeId) : Bool :=
 match P.underlying t with
 | some (.int _) => true
 | _ => false
theorem leaf_num {c : Value} {t : TypeId} (h : Leaf enc P w c t) (hk : isIntT P t = true) (z : Nat → Option Obj) : DeepC P z t c (numC c) := by
 unfold isIntT at hk
 split at hk
 ·rename_i k ht
  obtain ⟨n, rfl, hw⟩ := Leaf.int h ht
  refine .int ht ?_
  simp only [Lit.wf, Bool.and_eq_true, decide_eq_true_eq] at hw
  exact wrap_in hw.1 hw.2
 ·cases hk
theorem all2_get : ∀ {cs : List Value} {ts : List TypeId}, All2 (Leaf enc P w) cs ts → ∀ {j : Nat} {c : Value} {t : TypeId}, cs[j]? = some c → ts[j]? = some t → Leaf enc P w c t
 | [], [], _, j, c, t, hc, _ => by simp at hc
 | [], _ :: _, h, _, _, _, _, _ => h.elim
 | _ :: _, [], h, _, _, _, _, _ => h.elim
 | a :: cs, b :: ts, h, j, c, t, hc, ht => by
  cases j with
  | zero =>
   simp only [List.getElem?_cons_zero, Option.some.injEq] at hc ht
   subst hc ht
   exact h.1
  | succ j => exact all2_get h.2 (by simpa using hc) (by simpa using ht)
theorem cells_get {a : Addr} {n : Nat} {cs : List Value} (h : w.cells? 0 a n = some cs) : cs.length = n ∧ ∀ j, j < n → w.cell? (a.add j) = cs[j]? := by
 unfold World.cells? at h
 rw [if_pos (Nat.zero_le _)] at h
 exact ⟨by simpa using mapM_some_length h, fun j hj => mapM_some_get h j j (by simp [hj])⟩
theorem add_block (a : Addr) (j : Nat) : (a.add j).block = a.block := by
 unfold Addr.add
 split <;> rfl
theorem add_off (a : Addr) (j : Nat) : (a.add j).off = a.off + j := by
 unfold Addr.add
 split
 ·rename_i h; subst h; rfl
 ·rfl
theorem cell_place {a : Addr} {j : Nat} {c : Value} (h : w.cell? (a.add j) = some c) : (j = 0 → a.spot = none) ∧ ∃ arr tb fz, w.heap[a.block]? = some (.cells arr tb fz) ∧ arr[a.off + j]? = some c := by
 unfold World.cell? at h
 split at h
 ·rename_i arr tb fz hg
  split at h
  ·cases h
  ·rename_i hs
   rw [add_block] at hg
   rw [add_off] at h
   refine ⟨fun h0 => ?_, arr, tb, fz, hg, h⟩
   subst h0
   cases hq : a.spot with
   | none => rfl
   | some x => exact absurd (show (a.add 0).spot.isSome = true by simp [Addr.add, hq]) hs
 ·cases h
theorem row_of {t e : TypeId} {ts : List TypeId} {n : Nat} (ht : P.underlying t = some (.slice e)) (hf : flatOf P n e = some ts) (hf2 : flatTs P 8 e = some ts) (hs : (P.info? e).map (·.size) = some ts.length) (hpos : 0 < ts.length) (hint : ts.all (isIntT P) = true) (hb : 0 < P.bytesOf e) {c : Value} (h : LeafW enc P w B c t) :
  ∃ xs, DatOk P (fun g => w.heap[g]?) (.r e c xs) ∧ c.oneCell' = true ∧ xs.length ≤ B := by
 obtain ⟨fuel, x, hx, hw⟩ := h
 have hcell : P.cellsOf e = ts.length := by
  unfold Program.cellsOf
  rw [hs]
  rfl
 rcases DataW.trod_slice ht hx with ⟨hc, _⟩ | ⟨a, len, cap, elems, rest, m, _, hc, hxe, _, hle, _, hel, hget, _⟩
 ·obtain rfl : c = .slice none 0 0 := by simpa using hc
  exact ⟨[], .inl ⟨.inl rfl, rfl⟩, rfl, Nat.zero_le _⟩
 ·obtain rfl : c = .slice (some a) len cap := by simpa using hc
  have hB : len ≤ B := by
   have h1 : (elems.length + rest.length) * P.bytesOf e ≤ B := by
    refine hw _ ?_
    rw [hxe]
    simp only [DataW.weights, ht, List.length_map]
    exact List.mem_cons_self ..
   have h2 : len * 1 ≤ (elems.length + rest.length) * P.bytesOf e := Nat.mul_le_mul (by omega) hb
   omega
  -- what the elements are
  have key : ∀ i, i < len → ∃ cs : List Value, cs.length = ts.length ∧ All2 (Leaf enc P w) cs ts ∧ ∀ j, j < ts.length → w.cell? ((a.add (i * ts.length)).add j) = cs[j]? := fun i hi => by
   have h1 := hget i hi
   rw [List.getElem?_eq_getElem (by omega), Option.bind_eq_some_iff] at h1
   obtain ⟨cs, h2, h3⟩ := h1
   have h4 := flat_opens n e ts hf _ _ _ h3
   rw [hcell] at h2
   obtain ⟨h5, h6⟩ := cells_get h2
   exact ⟨cs, h5, h4, h6⟩
  by_cases h0 : len = 0
  ·subst h0
   exact ⟨[], .inl ⟨.inr ⟨_, _, rfl⟩, rfl⟩, rfl, Nat.zero_le _⟩
  ·obtain ⟨cs0, l0, _, g0⟩ := key 0 (by omega)
   have h1 := g0 0 hpos
   rw [List.getElem?_eq_getElem (by omega)] at h1
   obtain ⟨hsp, arr, tb, fz, hg, _⟩ := cell_place h1
   have hsp := hsp rfl
   have e0 : a.add (0 * ts.length) = a := by simp [Addr.add]
   rw [e0] at hsp hg
   have hat : ∀ i, i < len → ∃ cs : List Value, cs.length = ts.length ∧ All2 (Leaf enc P w) cs ts ∧ ∀ j, j < ts.length → arr[a.off + i * ts.length + j]? = cs[j]? := fun i hi => by
    obtain ⟨cs, l, hA, g⟩ := key i hi
    refine ⟨cs, l, hA, fun j hj => ?_⟩
    have h2 := g j hj
    rw [List.getElem?_eq_getElem (by omega)] at h2
    obtain ⟨_, arr', tb', fz', hg', h3⟩ := cell_place h2
    rw [add_block] at hg'
    rw [add_off] at h3
    rw [hg] at hg'
    simp only [Option.some.injEq, Obj.cells.injEq] at hg'
    obtain ⟨rfl, _, _⟩ := hg'
    rw [h3, List.getElem?_eq_getElem (by omega)]
   refine ⟨(List.range len).map fun i => .l ((List.range ts.length).map fun j => numC ((arr[a.off + i * ts.length + j]?).getD default)), .inr ⟨a.block, a.off, cap, ts.length, arr, fz, ts, tb, ?_, hf2, hs, rfl, hg, ?_, ?_, ?_, ?_⟩, rfl, by simpa using hB⟩
   ·simp only [List.length_map, List.length_range]
    rw [show a = ⟨a.block, a.off, none⟩ by rw [← hsp]]
   ·simp only [List.length_map, List.length_range]
    obtain ⟨cs, l, _, g⟩ := hat (len - 1) (by omega)
    have h2 := g (ts.length - 1) (by omega)
    rw [List.getElem?_eq_getElem (by omega)] at h2
    have h3 := (Array.getElem?_eq_some_iff.1 h2).1
    have h4 : len * ts.length = (len - 1) * ts.length + ts.length := by
     rw [← Nat.succ_mul]
     congr 1
     omega
    omega
   ·simpa using hle
   ·intro i d hd j
    rw [List.getElem?_map] at hd
    obtain ⟨i', hi, rfl⟩ := Option.map_eq_some_iff.1 hd
    simp only [cellD, List.getElem?_map]
    by_cases hj : j < ts.length
    ·simp [List.getElem?_range hj, hj]
    ·rw [List.getElem?_eq_none (by simpa using hj)]
     simp [hj]
   ·intro i j d c tc v hd hc htc hv
    rw [List.getElem?_map] at hd
    obtain ⟨i', hi, rfl⟩ := Option.map_eq_some_iff.1 hd
    have hil : i < len := by
     have := (List.getElem?_eq_some_iff.1 hi).1
     simpa using this
    rw [List.getElem?_range hil] at hi
    injection hi with hi
    subst hi
    have hj : j < ts.length := (List.getElem?_eq_some_iff.1 htc).1
    simp only [cellD, List.getElem?_map, List.getElem?_range hj, Option.map_some, Option.some.injEq] at hc
    subst hc
    rw [hv]
    obtain ⟨cs, l, hA, g⟩ := hat i hil
    rw [g j hj] at hv
    have hq : isIntT P tc = true := List.all_eq_true.1 hint tc (List.mem_of_getElem? htc)
    exact leaf_num (all2_get hA hv htc) hq _
end
end Go.Proofs.YtcjbpaiomcfgnaaGreatDoor
namespace Go.Proofs.YtcjbpaiomcfgnaaGreatDoor
open Go.ChangeShapes Go.WideShapes Go.ChangeAt Go.RowKit
section
variable {H : Type} {enc : TypeId × Value → H} {P : Program} {w : World} {B : Nat}
theorem weightsAll_mem {e : TypeId} : ∀ {ds : List (DataW H)} {d : DataW H}, d ∈ ds → ∀ n ∈ d.weights P e, n ∈ DataW.weightsAll P e ds
 | x :: ds, d, h, n, hn => by
  rw [show DataW.weightsAll P e (x :: ds) = x.weights P e ++ DataW.weightsAll P e ds from rfl]
  rcases List.mem_cons.1 h with rfl | h
  ·exact List.mem_append_left _ hn
  ·exact List.mem_append_right _ (weightsAll_mem h n hn)
theorem all2W_get : ∀ {cs : List Value} {ts : List TypeId}, All2 (LeafW enc P w B) cs ts → ∀ {j : Nat} {c : Value} {t : TypeId}, cs[j]? = some c → ts[j]? = some t → LeafW enc P w B c t
 | [], [], _, j, c, t, hc, _ => by simp at hc
 | c :: cs, t :: ts, h, 0, c', t', hc, ht => by
  simp at hc ht
  subst hc ht
  exact h.1
 | c :: cs, t :: ts, h, j + 1, c', t', hc, ht => all2W_get h.2 (by simpa using hc) (by simpa using ht)
 | [], _ :: _, h, _, _, _, _, _ => h.elim
 | _ :: _, [], h, _, _, _, _, _ => h.elim
theorem DatOk.deep {z : Nat → Option Obj} {t e : TypeId} {v : Value} {xs : List Dat} (h : DatOk P z (.r e v xs)) (ht : P.underlying t = some (.slice e)) : DeepC P z t v (.r e v xs) := by
 rcases h with ⟨rfl | ⟨a, cap, rfl⟩, rfl⟩ | h
 ·exact .nil ht
 ·exact .empty ht
 ·exact h.deep ht
theorem row_gen {t e : TypeId} {ts : List TypeId} {n : Nat} {Q : TypeId → Dat → Prop} (ht : P.underlying t = some (.slice e)) (hf : flatOf P n e = some ts) (hna : noArr P n e = true) (hf2 : flatTs P 8 e = some ts) (hs : (P.info? e).map (·.size) = some ts.length) (hpos : 0 < ts.length) (hb : 0 < P.bytesOf e)
  (hQ : ∀ tc ∈ ts, ∀ c, LeafW enc P w B c tc → ∃ d, DeepC P (fun g => w.heap[g]?) tc c d ∧ Q tc d) {c : Value} (h : LeafW enc P w B c t) :
  ∃ xs, DatOk P (fun g => w.heap[g]?) (.r e c xs) ∧ c.oneCell' = true ∧ xs.length ≤ B ∧ ∀ x ∈ xs, ∃ ds : List Dat, x = .l ds ∧ ds.length = ts.length ∧ ∀ (j : Nat) (d : Dat) (tc : TypeId), ds[j]? = some d → ts[j]? = some tc → Q tc d := by
 obtain ⟨fuel, x, hx, hw⟩ := h
 have hcell : P.cellsOf e = ts.length := by
  unfold Program.cellsOf
  rw [hs]
  rfl
 rcases DataW.trod_slice ht hx with ⟨hc, _⟩ | ⟨a, len, cap, elems, rest, m, _, hc, hxe, _, hle, _, hel, hget, _⟩
 ·obtain rfl : c = .slice none 0 0 := by simpa using hc
  exact ⟨[], .inl ⟨.inl rfl, rfl⟩, rfl, Nat.zero_le _, fun _ h => by cases h⟩
 ·obtain rfl : c = .slice (some a) len cap := by simpa using hc
  have hB : len ≤ B := by
   have h1 : (elems.length + rest.length) * P.bytesOf e ≤ B := by
    refine hw _ ?_
    rw [hxe]
    simp only [DataW.weights, ht, List.length_map]
    exact List.mem_cons_self ..
   have h2 : len * 1 ≤ (elems.length + rest.length) * P.bytesOf e := Nat.mul_le_mul (by omega) hb
   omega
  have hwe : ∀ y ∈ elems, ∀ n ∈ y.1.weights P e, n ≤ B := fun y hy n hn => by
   refine hw n ?_
   rw [hxe]
   simp only [DataW.weights, ht]
   refine List.mem_cons_of_mem _ (List.mem_append_left _ ?_)
   exact weightsAll_mem (List.mem_map.2 ⟨y, hy, rfl⟩) n hn
  have key : ∀ i, i < len → ∃ cs : List Value, cs.length = ts.length ∧ All2 (LeafW enc P w B) cs ts ∧ ∀ j, j < ts.length → w.cell? ((a.add (i * ts.length)).add j) = cs[j]? := fun i hi => by
   have h1 := hget i hi
   rw [List.getElem?_eq_getElem (by omega), Option.bind_eq_some_iff] at h1
   obtain ⟨cs, h2, h3⟩ := h1
   have h4 := flat_opensW n e ts hf hna _ _ _ h3 (hwe _ (List.getElem_mem _))
   rw [hcell] at h2
   obtain ⟨h5, h6⟩ := cells_get h2
   exact ⟨cs, h5, h4, h6⟩
  by_cases h0 : len = 0
  ·subst h0
   exact ⟨[], .inl ⟨.inr ⟨_, _, rfl⟩, rfl⟩, rfl, Nat.zero_le _, fun _ h => by cases h⟩
  ·obtain ⟨cs0, l0, _, g0⟩ := key 0 (by omega)
   have h1 := g0 0 hpos
   rw [List.getElem?_eq_getElem (by omega)] at h1
   obtain ⟨hsp, arr, tb, fz, hg, _⟩ := cell_place h1
   have hsp := hsp rfl
   have e0 : a.add (0 * ts.length) = a := by simp [Addr.add]
   rw [e0] at hsp hg
   have hat : ∀ i, i < len → ∃ cs : List Value, cs.length = ts.length ∧ All2 (LeafW enc P w B) cs ts ∧ ∀ j, j < ts.length → arr[a.off + i * ts.length + j]? = cs[j]? := fun i hi => by
    obtain ⟨cs, l, hA, g⟩ := key i hi
    refine ⟨cs, l, hA, fun j hj => ?_⟩
    have h2 := g j hj
    rw [List.getElem?_eq_getElem (by omega)] at h2
    obtain ⟨_, arr', tb', fz', hg', h3⟩ := cell_place h2
    rw [add_block] at hg'
    rw [add_off] at h3
    rw [hg] at hg'
    simp only [Option.some.injEq, Obj.cells.injEq] at hg'
    obtain ⟨rfl, _, _⟩ := hg'
    rw [h3, List.getElem?_eq_getElem (by omega)]
   have hpick : ∀ i j, ∃ d, i < len → ∀ tc v, ts[j]? = some tc → arr[a.off + i * ts.length + j]? = some v → DeepC P (fun g => w.heap[g]?) tc v d ∧ Q tc d := fun i j => by
    by_cases hi : i < len
    ·cases htc : ts[j]? with
     | none => exact ⟨.n 0, fun _ tc v h _ => by cases h⟩
     | some tc =>
      have hj : j < ts.length := (List.getElem?_eq_some_iff.1 htc).1
      obtain ⟨cs, l, hA, g⟩ := hat i hi
      have hc : cs[j]? = some cs[j] := List.getElem?_eq_getElem (by omega)
      obtain ⟨d, hd⟩ := hQ tc (List.mem_of_getElem? htc) _ (all2W_get hA hc htc)
      refine ⟨d, fun _ tc' v h1 h2 => ?_⟩
      injection h1 with h1
      subst h1
      rw [g j hj, hc] at h2
      injection h2 with h2
      subst h2
      exact hd
    ·exact ⟨.n 0, fun h => absurd h hi⟩
   obtain ⟨f, hf⟩ := Classical.axiomOfChoice fun i => Classical.axiomOfChoice (hpick i)
   refine ⟨(List.range len).map fun i => .l ((List.range ts.length).map fun j => f i j), .inr ⟨a.block, a.off, cap, ts.length, arr, fz, ts, tb, ?_, hf2, hs, rfl, hg, ?_, ?_, ?_, ?_⟩, rfl, by simpa using hB, ?_⟩
   ·simp only [List.length_map, List.length_range]
    rw [show a = ⟨a.block, a.off, none⟩ by rw [← hsp]]
   ·simp only [List.length_map, List.length_range]
    obtain ⟨cs, l, _, g⟩ := hat (len - 1) (by omega)
    have h2 := g (ts.length - 1) (by omega)
    rw [List.getElem?_eq_getElem (by omega)] at h2
    have h3 := (Array.getElem?_eq_some_iff.1 h2).1
    have h4 : len * ts.length = (len - 1) * ts.length + ts.length := by
     rw [← Nat.succ_mul]
     congr 1
     omega
    omega
   ·simpa using hle
   ·intro i d hd j
    rw [List.getElem?_map] at hd
    obtain ⟨i', hi, rfl⟩ := Option.map_eq_some_iff.1 hd
    simp only [cellD, List.getElem?_map]
    by_cases hj : j < ts.length
    ·simp [List.getElem?_range hj, hj]
    ·rw [List.getElem?_eq_none (by simpa using hj)]
     simp [hj]
   ·intro i j d c tc v hd hc htc hv
    rw [List.getElem?_map] at hd
    obtain ⟨i', hi, rfl⟩ := Option.map_eq_some_iff.1 hd
    have hil : i < len := by
     have := (List.getElem?_eq_some_iff.1 hi).1
     simpa using this
    rw [List.getElem?_range hil] at hi
    injection hi with hi
    subst hi
    have hj : j < ts.length := (List.getElem?_eq_some_iff.1 htc).1
    simp only [cellD, List.getElem?_map, List.getElem?_range hj, Option.map_some, Option.some.injEq] at hc
    subst hc
    exact (hf i j hil tc v htc hv).1
   ·intro y hy
    obtain ⟨i, hi, rfl⟩ := List.mem_map.1 hy
    have hil : i < len := List.mem_range.1 hi
    refine ⟨_, rfl, by simp, fun j d tc hd htc => ?_⟩
    have hj : j < ts.length := (List.getElem?_eq_some_iff.1 htc).1
    simp only [List.getElem?_map, List.getElem?_range hj, Option.map_some, Option.some.injEq] at hd
    subst hd
    obtain ⟨cs, l, hA, g⟩ := hat i hil
    exact (hf i j hil tc cs[j] htc (by rw [g j hj]; exact List.getElem?_eq_getElem (by omega))).2
end
end Go.Proofs.YtcjbpaiomcfgnaaGreatDoor
