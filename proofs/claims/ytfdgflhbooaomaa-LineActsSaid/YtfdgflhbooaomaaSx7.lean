/- The symbolic machine, 7: the rules as a walk's text uses them. No program in sight. -/
import Derived.Test.YtfdgflhbooaomaaSx6
import Derived.IntWalk
namespace Go.Proofs.Ytfdgflhbooaomaa
open Go.RowKit

def condChk (c : Code) (p : List Nat) (T : List (Nat × Value)) : Option Bool :=
  match codeAt c p with
  | .cond x _ _ => match evT T x with
    | some (.bool b) => some b
    | _ => none
  | _ => none
def isLoop : Code → Bool
  | .loop _ => true
  | _ => false
def isDraw : Code → Bool
  | .region _ _ true => true
  | _ => false
def optEq : Option Nat → Option Nat → Bool
  | none, none => true
  | some x, some y => Nat.beq x y
  | _, _ => false
theorem optEq_spec {x y : Option Nat} (h : optEq x y = true) : x = y := by
  cases x <;> cases y <;> simp_all [optEq]
/-- what a call calls, and with what -/
def callChk (P : Program) (ops : List Oper) (N i : Nat) (d : Option Nat) (T : List (Nat × Value)) : Option (FuncId × Array Value) :=
  match ops[i]? with
  | none => none
  | some o =>
    match wantedT ops.toArray T o with
    | some true =>
      match knowsAll T o.op && okDst N o.dst && !isSel o.op && optEq o.dst d with
      | true =>
        match pureRun P (execOp (rho T) o) with
        | some (.enter f vs) => some (f, vs)
        | _ => none
      | false => none
    | _ => none
/-- an operation that is known, and goes to slot d -/
def opChk (ops : List Oper) (N i : Nat) (d : Option Nat) (T : List (Nat × Value)) : Option Op :=
  match ops[i]? with
  | none => none
  | some o =>
    match wantedT ops.toArray T o with
    | some true =>
      match knowsAll T o.op && okDst N o.dst && !isSel o.op && optEq o.dst d with
      | true => some o.op
      | false => none
    | _ => none

section
variable {P : Program} {c : Code} {Q : Exit → Act → World → Prop} {D : Nat → Prop} {w0 w W0 : World} {L0 lm : List Nat} {H H0 : List Bk} {F : Fc} {N : Nat} {T : List (Nat × Value)} {a : Act} {k : List It} {p : List Nat} {i : Nat}

theorem callChk_spec {ops : List Oper} {d : Option Nat} {f : FuncId} {vs : Array Value} (h : callChk P ops N i d T = some (f, vs)) :
    ∃ o, ops[i]? = some o ∧ wantedT ops.toArray T o = some true ∧ (knowsAll T o.op && okDst N o.dst && !isSel o.op) = true ∧ o.dst = d ∧ pureRun P (execOp (rho T) o) = some (.enter f vs) := by
  unfold callChk at h
  split at h
  · cases h
  · rename_i o ho
    split at h
    · rename_i hw
      split at h
      · rename_i hk
        simp only [Bool.and_eq_true] at hk
        split at h
        · rename_i f' vs' hp
          simp only [Option.some.injEq, Prod.mk.injEq] at h
          obtain ⟨rfl, rfl⟩ := h
          exact ⟨o, ho, hw, by simp only [Bool.and_eq_true]; exact hk.1, optEq_spec hk.2, hp⟩
        · cases h
      · cases h
    · cases h
theorem opChk_spec {ops : List Oper} {d : Option Nat} {op : Op} (h : opChk ops N i d T = some op) :
    ∃ o, ops[i]? = some o ∧ wantedT ops.toArray T o = some true ∧ (knowsAll T o.op && okDst N o.dst && !isSel o.op) = true ∧ o.dst = d ∧ o.op = op := by
  unfold opChk at h
  split at h
  · cases h
  · rename_i o ho
    split at h
    · rename_i hw
      split at h
      · rename_i hk
        simp only [Bool.and_eq_true] at hk
        injection h with h
        exact ⟨o, ho, hw, by simp only [Bool.and_eq_true]; exact hk.1, optEq_spec hk.2, h⟩
      · cases h
    · cases h

theorem condG_ (b : Bool) (hT : Knows N T a) (hc : condChk c p T = some b)
    (h1 : b = true → At P c Q (⟨0, p ++ [0], 0⟩ :: k) a w) (h2 : b = false → At P c Q (⟨0, p ++ [1], 0⟩ :: k) a w) : At P c Q (⟨0, p, i⟩ :: k) a w := by
  unfold condChk at hc
  split at hc
  · rename_i x y z hcode
    split at hc
    · rename_i b' hv
      injection hc with hc
      subst hc
      exact cond_ hT hcode hv h1 h2
    · cases hc
  · cases hc

theorem callG_ (d : Option Nat) (f : FuncId) (vs : Array Value) {R : Ending → World → Prop} (hT : Knows N T a) (hc : callChk P (opsAt c p) N i d T = some (f, vs)) (hR : Calls P f vs w R)
    (hp : ∀ e w', R e w' → ∃ v, e = .returned v ∧ ∀ a', Knows N (putT T d v) a' → At P c Q (⟨1, p, i + 1⟩ :: k) a' w') : At P c Q (⟨1, p, i⟩ :: k) a w := by
  obtain ⟨o, ho, hw, hk, rfl, he⟩ := callChk_spec hc
  exact call_ hT ho hw hk he hR hp

theorem callDG_ {ord : List (Nat × Nat)} (d : Option Nat) (f : FuncId) (vs : Array Value) {R : Ending → World → Prop} (hT : Knows N T a) (hD : DI F.E W0 H0 lm H w) (hc : callChk P (opsAt c p) N i d T = some (f, vs)) (hR : Calls P f vs w R)
    (hp : ∀ e w', R e w' → ∃ v H', e = .returned v ∧ DI F.E W0 H0 lm H' w' ∧ ∀ a', Knows N (putT T d v) a' → AtD P c Q k p W0 H0 lm ord a' w') : AtD P c Q k p W0 H0 lm ((i, 0) :: ord) a w := by
  obtain ⟨o, ho, hw, hk, rfl, he⟩ := callChk_spec hc
  exact callD_ hT hD ho hw hk he hR hp

theorem loopG_ {ι : Type} (I : ι → Act → World → Prop) (μ : ι → Nat) (hc : isLoop (codeAt c p) = true) (x : ι) (h0 : I x a w)
    (h : ∀ x a w, I x a w → At P c (loopPost P c Q k I μ x) [⟨0, p ++ [0], 0⟩] a w) : At P c Q (⟨0, p, i⟩ :: k) a w := by
  cases hcode : codeAt c p <;> rw [hcode] at hc <;> first | (cases hc; done) | exact loop_ I μ hcode x h0 h

theorem drawG_ (ord : List (Nat × Nat)) (lm : List Nat) (hc : isDraw (codeAt c p) = true) (hm : P.follows .mixedOrders = true)
    (hok : (Nat.beq ord.length (opsAt c p).length && Region.noSelect (opsAt c p).toArray && seqOkB (beforeL .any (opsAt c p) #[]) (opsAt c p).toArray ord (Array.replicate (opsAt c p).length false)) = true) (hI : Inv D w0 L0 H F w)
    (h : ∀ w1, Inv D w0 L0 H F w1 → DI F.E w1 H lm H w1 → AtD P c Q k p w1 H lm ord a w1) : At P c Q (⟨0, p, i⟩ :: k) a w := by
  have hok' : (decide (ord.length = (opsAt c p).length) && Region.noSelect (opsAt c p).toArray && seqOk (opsAt c p).toArray (fun _ => true) ord (Array.replicate (opsAt c p).length false)) = true := by
    simp only [Bool.and_eq_true, decide_eq_true_eq] at hok ⊢
    exact ⟨⟨Nat.eq_of_beq_eq_true hok.1.1, hok.1.2⟩, seqOkB_ok _ _ hok.2⟩
  cases hcode : codeAt c p <;> rw [hcode] at hc <;> first | (cases hc; done) | skip
  rename_i id ops dr
  cases dr with
  | false => cases hc
  | true => exact draw_ ord lm hcode hm hok' hI h

/-- one operation, by its run -/
theorem opG_ (d : Option Nat) (op : Op) (v : Value) {w' : World} (hT : Knows N T a) (hc : opChk (opsAt c p) N i d T = some op)
    (hrun : ∀ o : Oper, o.op = op → (execOp (rho T) o).run P w = .ok (.value v) w') (h : ∀ a', Knows N (putT T d v) a' → At P c Q (⟨1, p, i + 1⟩ :: k) a' w') : At P c Q (⟨1, p, i⟩ :: k) a w := by
  obtain ⟨o, ho, hw, hk, rfl, he⟩ := opChk_spec hc
  exact opw_ hT ho hw hk (hrun o he) h

/-- what a piece of code must come to -/
def cutPost (P : Program) (c : Code) (Q : Exit → Act → World → Prop) (k : List It) (I : Act → World → Prop) : Exit → Act → World → Prop
  | .normal, a, w => I a w
  | e, a, w => itPost P c Q k e a w
theorem cut_ (I : Act → World → Prop) (h1 : At P c (cutPost P c Q k I) [⟨0, p, i⟩] a w) (h2 : ∀ a w, I a w → At P c Q k a w) : At P c Q (⟨0, p, i⟩ :: k) a w := by
  show (codeAt c p).wp P _ a w
  refine wp_mono (show (codeAt c p).wp P (cutPost P c Q k I) a w from h1) fun e a w hq => ?_
  cases e with
  | normal => exact h2 a w hq
  | _ => exact hq
theorem cutEnd_ {I : Act → World → Prop} (h : I a w) : At P c (cutPost P c Q k I) [] a w := h
theorem cutRet_ {I : Act → World → Prop} (hk : (k.all fun it => Nat.blt it.tag 3) = true) (h : Q .ret a w) : cutPost P c Q k I .ret a w := itPost_ret hk h
theorem cutExit_ {I : Act → World → Prop} {id : Nat} {k' k'' : List It} (hc : codeAt c p = .exit id) (hk : (k'.all fun it => Nat.blt it.tag 2 || (Nat.beq it.tag 2 && !Nat.beq it.i id)) = true) (hp : popTo id k = some k'')
    (h : At P c Q k'' a w) : At P c (cutPost P c Q k I) (⟨0, p, i⟩ :: k') a w := by
  show (codeAt c p).wp P _ a w
  rw [hc]
  exact wp_exit (itPost_exit hk (show itPost P c Q k (.exit id) a w from popTo_sound hp h))
theorem panicOk_cut {I : Act → World → Prop} (h : PanicOk Q) : PanicOk (cutPost P c Q k I) := fun ch a d v w hq => panicOk_it h (k := k) ch a d v w hq

theorem Inv.dropFE (h : Inv D w0 L0 H F w) (n m : Nat) : Inv D w0 L0 H ⟨F.E.drop m, F.F.drop n⟩ w := h.ctx (fun _ hf => List.mem_of_mem_drop hf) (fun _ he => List.mem_of_mem_drop he)

theorem Inv.fact (h : Inv D w0 L0 H F w) (j : Nat) {α : Type} {R : Rp α} {cs : List Value} {x : α} (hj : F.F[j]? = some ⟨α, R, cs, x⟩) : R.at_ w (dm D w0 H w) cs x := h.facts _ (List.mem_of_getElem? hj)
/-- a call begins: nothing but data came in -/
theorem Inv.init {D : Nat → Prop} {w : World} (F : List Fact) (h : ∀ f ∈ F, f.holds w D) : Inv D w [] [] ⟨[], F⟩ w :=
  ⟨by simp, by simp [gs], Keep.refl _ _, by simp [gs], fun f hf => f.R.keep Holds.refl (fun b hb hl => ⟨hl, .inl hb, by simp [gs]⟩) (h f hf), by simp⟩
/-- what the call answers lies in D, or is new -/
theorem Inv.ends (h : Inv D w0 L0 H F w) {α : Type} {R : Rp α} {cs : List Value} {x : α} (hr : R.at_ w (dm D w0 H w) cs x) : R.at_ w (dom D w0.heap.size [] w) cs x := R.ends hr
end

/-- some of the blocks -/
theorem invPick {D : Nat → Prop} {w0 w : World} {L0 : List Nat} {H H' : List Bk} {F : Fc} (kb : List Nat) (hkb : nodupB kb = true) (h : Inv D w0 L0 H F w) (e : kb.filterMap (H[·]?) = H') : Inv D w0 L0 H' F w := by
  subst e
  refine h.sub (fun b hb => ?_) ?_
  · obtain ⟨i, _, hi⟩ := List.mem_filterMap.1 hb
    exact List.mem_of_getElem? hi
  · rw [gs_pick]
    exact nodup_pick h.nodup kb (nodupB_spec hkb)
theorem notT {b : Bool} (h : b = true) : (!b) = false := by rw [h]; rfl
theorem notF {b : Bool} (h : b = false) : (!b) = true := by rw [h]; rfl
theorem ne_of_beq_false' {a b : Int} (h : (a == b) = false) : a ≠ b := by simpa using h
theorem eq_of_bne_false {a b : Int} (h : (a != b) = false) : a = b := by simpa using h
theorem ne_of_bne_true {a b : Int} (h : (a != b) = true) : a ≠ b := by simpa using h
theorem i64_eq {x y : Int} (h : x = y) (lo : -9223372036854775808 ≤ x) (hi : x ≤ 9223372036854775807) : Value.int .i64 (IntKind.i64.wrap x) = .int .i64 y := by
  rw [IntWalk.i64_in x ⟨by omega, by omega⟩, h]
theorem bcase (b : Bool) {Q : Prop} (h1 : b = true → Q) (h2 : b = false → Q) : Q := by
  cases b with
  | true => exact h1 rfl
  | false => exact h2 rfl
/-- fewer slots are known -/
theorem lessG_ {N : Nat} {T : List (Nat × Value)} {a : Act} (T' : List (Nat × Value)) (hT : Knows N T a) (h : T'.map (fun p => look T p.1) = T'.map (fun p => some p.2)) : Knows N T' a :=
  less T' hT fun p hp => List.map_inj_left.1 h p hp

theorem AllF.nil {w : World} {U : Nat → Prop} : ∀ f ∈ ([] : List Fact), f.holds w U := by simp
theorem AllF.cons {w : World} {U : Nat → Prop} {f : Fact} {F : List Fact} (h : f.holds w U) (hF : ∀ f ∈ F, f.holds w U) : ∀ g ∈ f :: F, g.holds w U := fun g hg => by
  rcases List.mem_cons.1 hg with rfl | hg
  · exact h
  · exact hF g hg

end Go.Proofs.Ytfdgflhbooaomaa
