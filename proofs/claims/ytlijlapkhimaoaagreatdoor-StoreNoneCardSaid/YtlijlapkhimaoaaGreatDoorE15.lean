/- The evaluator, 15: code, calls, rounds: each out of what its parts promise. No program in sight. -/
import Derived.Test.YtlijlapkhimaoaaGreatDoorE14b
namespace Go.Proofs.YtlijlapkhimaoaaGreatDoor
open Go Go.RowKit

theorem concatO_mem {f : Out → Res} : ∀ {l outs : List Out}, concatO f l = some outs → ∀ o ∈ l, ∃ os, f o = some os ∧ ∀ x ∈ os, x ∈ outs
  | [], _, _, o, ho => by simp at ho
  | p :: l, outs, h, o, ho => by
    simp only [concatO] at h
    split at h
    · cases h
    · rename_i a ha
      split at h
      · cases h
      · rename_i b hb
        injection h with h
        subst h
        rcases List.mem_cons.1 ho with rfl | ho
        · exact ⟨a, ha, fun x hx => List.mem_append_left _ hx⟩
        · obtain ⟨os, h1, h2⟩ := concatO_mem hb o ho
          exact ⟨os, h1, fun x hx => List.mem_append_right _ (h2 x hx)⟩
theorem bindO_spec {x : Res} {f : Out → Res} {outs : List Out} (h : bindO x f = some outs) : ∃ l, x = some l ∧ ∀ o ∈ l, ∃ os, f o = some os ∧ ∀ y ∈ os, y ∈ outs := by
  unfold bindO at h
  split at h
  · cases h
  · rename_i l
    refine ⟨l, rfl, ?_⟩
    split at h
    · rename_i o
      intro p hp
      rw [List.mem_singleton] at hp
      subst hp
      exact ⟨outs, h, fun _ h => h⟩
    · exact concatO_mem h

/-- code x, walked within the scope c -/
def Scoped (F : Fence) (n : Nat) (P : Program) (c x : Code) (Q : Exit → Act → World → Prop) (a : Act) (w : World) : Prop :=
  ∀ (b : Frame) (k : List Item) (cs : List Frame), b.roundOf = F.round → F.fn b.fn → F.room (cs.length + 1 + n) →
    ∃ e a' w', Q e a' w' ∧ ArrivesIn (Machine.fenced P F) P (lone (b.atR a (.code x :: .inScope c :: k)) cs w) b k cs e a' w'

/-- what a request's answer is worth -/
def SoundReq (P : Program) (AnyOk : Req → List Out → Prop) (n : Nat) (outs : List Out) : Req → Prop
  | .code r c T N M s => ∀ (w0 : World) (A : Anch) (ν : Nm) (w : World) (ro : Option Nat) (a : Act), WRel P w0 A ν s w → FRel ν T N a.tmps → MRel ν M a.defers → RR ν r ro →
    c.wpIn (fz ro) 0 P (Post P w0 A ν N outs) a w ∧ ∀ b, c = .loop b → Code.roundsIn (fz ro) 0 P b (Post P w0 A ν N outs) n a w
  | .ops r ops l T N M s => ∀ (w0 : World) (A : Anch) (ν : Nm) (w : World) (ro : Option Nat) (a : Act), WRel P w0 A ν s w → FRel ν T N a.tmps → MRel ν M a.defers → RR ν r ro →
    wpListIn (fz ro) 0 P ops (Post P w0 A ν N outs) l a w
  | .one r o T s => ∀ (w0 : World) (A : Anch) (ν : Nm) (w : World) (ro : Option Nat) (a : Act) (N : Nat), WRel P w0 A ν s w → FRel ν T N a.tmps → RR ν r ro → OneOk P ro o a w w0 A ν outs
  | .draw r ops T N M s _ => ∀ (w0 : World) (A : Anch) (ν : Nm) (w : World) (ro : Option Nat) (a : Act) (id : Nat), WRel P w0 A ν s w → FRel ν T N a.tmps → MRel ν M a.defers → RR ν r ro →
    (Code.region id ops true).wpIn (fz ro) 0 P (Post P w0 A ν N outs) a w
  | .any r ops listed T N M s z => AnyOk (.any r ops listed T N M s z) outs
  | .call f args s => (∀ (VS : Array Value) (w : World), (callFunc f VS).run P w = .ok (.enter f VS) w) ∧ ∀ (w0 : World) (A : Anch) (ν : Nm) (w : World) (VS : List Value), WRel P w0 A ν s w → denL ν args = some VS → Calls P f VS.toArray w (CPost P w0 A ν outs)
  | .round l args s => ∀ (w0 : World) (A : Anch) (ν : Nm) (w : World) (lg : Nat) (VS : List Value) (ro : Option Nat), WRel P w0 A ν s w → ν l = some lg → denL ν args = some VS →
    ∃ fn tmps assign body, (Instr.yield lg VS.toArray).run P w = .ok (.round lg fn tmps assign body) w ∧ RoundIn (fz ro) 0 P lg fn tmps assign body w (CPost P w0 A ν outs)
  | .scop r c x T N M s => ∀ (w0 : World) (A : Anch) (ν : Nm) (w : World) (ro : Option Nat) (a : Act), WRel P w0 A ν s w → FRel ν T N a.tmps → MRel ν M a.defers → RR ν r ro → Scoped (fz ro) 0 P c x (Post P w0 A ν N outs) a w

/-- the calls that are known already are so -/
def TabOk (P : Program) (AnyOk : Req → List Out → Prop) (tab : List Ent) : Prop := ∀ e ∈ tab, SoundReq P AnyOk 0 e.outs (.call e.f e.args e.s)

/-- so are those of values that name nothing -/
def PTabOk (P : Program) (ptab : List PEnt) : Prop := ∀ e ∈ ptab, closedL e.args = true ∧ closedV e.v = true ∧ (∀ (VS : Array Value) (w : World), (callFunc e.f VS).run P w = .ok (.enter e.f VS) w) ∧
  ∀ (ν : Nm) (w : World) (VS : List Value), GlobOk ν e.gl w → denL ν e.args = some VS → Calls P e.f VS.toArray w fun x w' => Below w.heap.size w w' ∧ ∃ V, den ν e.v = some V ∧ x = .returned V

theorem roundsIn_mono {F : Fence} {n : Nat} {P : Program} {c : Code} {Q Q' : Exit → Act → World → Prop} (hq : ∀ e a w, Q e a w → Q' e a w) : ∀ (m : Nat) (a : Act) (w : World), Code.roundsIn F n P c Q m a w → Code.roundsIn F n P c Q' m a w
  | 0, _, _, h => h
  | m + 1, a, w, h => wpIn_mono (show c.wpIn F n P (Exit.then (Code.roundsIn F n P c Q m) Q) a w from h) fun e a w he => by
    cases e with
    | normal => exact roundsIn_mono hq m a w he
    | _ => exact hq _ _ _ he
theorem wpListIn_mono {F : Fence} {n : Nat} {P : Program} {ops : Array Oper} {Q Q' : Exit → Act → World → Prop} (hq : ∀ e a w, Q e a w → Q' e a w) : ∀ (l : List Oper) (a : Act) (w : World), wpListIn F n P ops Q l a w → wpListIn F n P ops Q' l a w
  | [], _, _, h => hq _ _ _ h
  | o :: l, a, w, h => by
    unfold wpListIn at h ⊢
    split
    · rename_i hw
      rw [if_pos hw] at h
      refine ⟨h.1, ?_⟩
      have h := h.2
      generalize (o.semAt F.round a.eval).run P w = rr at *
      cases rr with
      | ok x w' =>
        cases x <;> simp only [Oper.uponIn] at h ⊢
        case value => exact wpListIn_mono hq l _ _ h
        case skip => exact wpListIn_mono hq l _ _ h
        case defer => exact wpListIn_mono hq l _ _ h
        case enter f args =>
          refine ⟨h.1, CallsIn.mono h.2 fun e w'' he => ?_⟩
          cases e with
          | returned u => exact wpListIn_mono hq l _ _ he
          | panicked ch => exact hq _ _ _ he
          | outgrown => obtain ⟨a, w, h⟩ := he; exact ⟨a, w, hq _ _ _ h⟩
        case row row args => exact ⟨h.1, RowsIn.mono h.2 fun u w'' he => wpListIn_mono hq l _ _ he⟩
        case round l' f tmps as bd =>
          refine ⟨h.1, RoundIn.mono h.2 fun e w'' he => ?_⟩
          cases e with
          | returned u => exact wpListIn_mono hq l _ _ he
          | panicked ch => exact hq _ _ _ he
          | outgrown => obtain ⟨a, w, h⟩ := he; exact ⟨a, w, hq _ _ _ h⟩
      | halt x w' =>
        cases x <;> simp only [Oper.uponIn] at h ⊢
        exact hq _ _ _ h
    · rename_i hw
      rw [if_neg hw] at h
      exact ⟨h.1, wpListIn_mono hq l _ _ h.2⟩

section
variable {P : Program} {w0 w : World} {A : Anch} {ν : Nm} {s : St} {T : Tr AV} {N : Nat} {M : List Nat} {a : Act} {r ro : Option Nat}

theorem post_norm {outs : List Out} (hW : WRel P w0 A ν s w) (hF : FRel ν T N a.tmps) (hM : MRel ν M a.defers) (h : norm1 T M s = some outs) : Post P w0 A ν N outs .normal a w := by
  simp only [norm1, Option.some.injEq] at h
  subst h
  exact ⟨_, List.mem_singleton.2 rfl, ν, Nm.le.refl _, trivial, hW, hF, hM⟩

theorem wanted_rel {ops : Array Oper} {o : Oper} {b : Bool} (hF : FRel ν T N a.tmps) (h : wantedA ops T o = some b) : Region.wanted o (yielded ops a.tmps) = b := by
  unfold wantedA at h
  unfold Region.wanted
  split at h
  · rename_i hg
    injection h with h
    rw [hg]
    exact h
  · rename_i j want hg
    rw [hg]
    split at h
    · rename_i d hd
      split at h
      · rename_i b' hb
        injection h with h
        obtain ⟨V, h1, h2⟩ := hF.slots d _ hb
        simp only [den, Option.some.injEq] at h1
        subst h1
        subst h
        simp only [yielded, hd, Option.bind_some, h2]
        cases b' <;> cases want <;> rfl
      · rename_i l hb
        injection h with h
        subst h
        obtain ⟨V, h1, h2⟩ := hF.slots d _ hb
        obtain ⟨L, _, rfl⟩ := tup_den h1
        simp only [yielded, hd, Option.bind_some, h2]
        rfl
      · cases h
    · cases h

theorem den_undA : den ν undA = some undef := rfl

/-- a block that no name stands for turns -/
theorem WRel.turn (h : WRel P w0 A ν s w) {g : Nat} {obj : Obj} {w' : World} (h0 : w0.heap.size ≤ g) (hno : ∀ i o, s.h.get i = some o → ν i ≠ some g) (hown : A.w.heap.size ≤ g ∨ ∃ j o, A.h.get j = some o ∧ A.ν j = some g) (hw : Upd w g obj w') : WRel P w0 A ν s w' := by
  refine ⟨⟨hw.os.trans h.keep.os, hw.tape.trans h.keep.tape, hw.output.trans h.keep.output, by rw [hw.size]; exact h.keep.size, fun k hk hn => ?_⟩, h.top, fun j o hj => ?_, h.inj, h.ext, h.anc, fun j o hj hn => ?_, fun k hk hn => ?_, by rw [hw.size]; exact h.big, h.own, h.ctx⟩
  · rw [hw.rest k (by omega)]
    exact h.keep.block k hk hn
  · obtain ⟨g', obj', h1, h2, h3, h4⟩ := h.objs j o hj
    exact ⟨g', obj', h1, h2, by rw [hw.rest g' fun e => hno j o hj (e ▸ h1)]; exact h3, h4⟩
  · obtain ⟨⟨o2, h1⟩, h2⟩ := h.same j o hj hn
    refine ⟨⟨o2, h1⟩, fun g' hg' => ?_⟩
    rw [hw.rest g' fun e => hno j o2 h1 (e ▸ h.ext _ _ hg')]
    exact h2 g' hg'
  · rw [hw.rest k ?_]
    · exact h.far k hk hn
    · rintro rfl
      rcases hown with h1 | ⟨j, o, h1, h2⟩
      · omega
      · exact hn j o h1 h2
theorem WRel.killTurn (h : WRel P w0 A ν s w) {i g : Nat} {o : AObj} {obj : Obj} {w' : World} (hi : s.h.get i = some o) (hg : ν i = some g) (hw : Upd w g obj w') : WRel P w0 A ν (killO s i) w' := by
  obtain ⟨g', _, h1, h2, _⟩ := h.objs i o hi
  rw [hg] at h1
  injection h1 with h1
  subst h1
  refine (h.kill i).turn h2 (fun j o' hj e => ?_) (h.own i o hi g hg) hw
  simp only [killO] at hj
  rw [Tr.get_put] at hj
  split at hj
  · cases hj
  · rename_i hne
    exact hne (h.inj j i o' o hj hi (e.trans hg.symm))

/-! ### an operation -/
theorem one_sound {AnyOk : Req → List Out → Prop} {prims : Pr} {n : Nat} {rec : Req → Res} (hN : okNames P = true) (hP : PrimOk P prims) (ih : ∀ q outs, rec q = some outs → SoundReq P AnyOk n outs q) {o : Oper} {outs : List Out}
    (h : evalBody P prims rec (.one r o T s) = some outs) : SoundReq P AnyOk (n + 1) outs (.one r o T s) := by
  intro w0 A ν w ro a N hW hF hR K Q hK
  unfold evalBody at h
  simp only at h
  unfold evOne at h
  split at h
  · rename_i hk
    split at h
    · rename_i v hv
      injection h with h
      subst h
      obtain ⟨V, h1, h2⟩ := pure0_rel hF (kind2_worldless hk hv) hv
      obtain ⟨p, hp, hd, hW', _⟩ := fork_spec hW h1
      exact one_value (noDefer_of (s := s) (T := T) (.inl (by rw [hk]; decide))) (.inl (h2 w)) (hK _ (List.mem_map.2 ⟨p, hp, rfl⟩) ν V w (Nm.le.refl _) hW' hd)
    · cases h
  · rename_i hk
    split at h
    · rename_i v hv
      injection h with h
      subst h
      obtain ⟨V, h1, h2⟩ := read_R hF hk hW.rrel ⟨fun _ _ => trivial, fun _ _ => trivial⟩ hv
      obtain ⟨p, hp, hd, hW', _⟩ := fork_spec hW h1
      exact one_value (noDefer_of (s := s) (T := T) (.inl (by rw [hk]; decide))) (.inl h2) (hK _ (List.mem_map.2 ⟨p, hp, rfl⟩) ν V w (Nm.le.refl _) hW' hd)
    · cases h
  · rename_i hk
    split at h
    · rename_i obj f hv
      injection h with h
      subst h
      obtain ⟨ν', V, w', h1, h2, h3, h4⟩ := makes_rel hW (allocA_rel hF hv)
      exact one_value (noDefer_of (s := s) (T := T) (.inl (by rw [hk]; decide))) (.inl h4) (hK _ (List.mem_singleton.2 rfl) ν' V w' h1 h2 h3)
    · cases h
  · rename_i hk
    split at h
    · rename_i g args hc
      obtain ⟨hd, VS, hVS, hrun⟩ := callee_rel hF hc
      split at h
      · rename_i k t hp
        split at h
        · rename_i v s' hpr
          injection h with h
          subst h
          refine one_does hd hrun (hP g k t hp w0 A ν s w args v s' VS hpr hW hVS) fun V w' hR => ?_
          obtain ⟨ν', h1, h2, h3⟩ := hR
          exact hK _ (List.mem_singleton.2 rfl) ν' V w' h1 h2 h3
        · cases h
      · have hcall := ih _ _ h
        have hen := hcall.1 VS.toArray w
        have hcall := hcall.2 w0 A ν w VS hW hVS
        refine one_enter hd ((hrun w).trans hen) (hcall.mono fun e w' he => ?_)
        obtain ⟨out, ho, ν', V, h1, h2, h3, h4⟩ := he
        exact ⟨V, h4, hK out ho ν' V w' h1 h2 h3⟩
    · rename_i l args hc
      obtain ⟨hd, lg, VS, hlg, hVS, hrun⟩ := callee_rel hF hc
      obtain ⟨fn, tmps, assign, body, h1, h2⟩ := ih _ _ h w0 A ν w lg VS ro hW hlg hVS
      refine one_round hd (hrun w) ⟨fn, tmps, assign, body, h1, h2.mono fun e w' he => ?_⟩
      obtain ⟨out, ho, ν', V, h1, h2, h3, h4⟩ := he
      exact ⟨V, h4, hK out ho ν' V w' h1 h2 h3⟩
    · cases h
  · split at h
    · rename_i it hn
      split at h
      · rename_i l hl
        injection h with h
        subst h
        obtain ⟨x, hx, hx2⟩ := Option.bind_eq_some_iff.1 hl
        have hop : o.op = .next it false := by
          unfold isNext at hn
          split at hn
          · rename_i hop
            rw [hop]
            simpa using hn
          · cases hn
        obtain ⟨p, hp, ν', V, w', h1, h2, h3, h4⟩ := nextA_rel hW hx2 (hF.evA hx) o.type
        refine one_value (V := V) (w' := w') (fun c e => by rw [hop] at e; cases e) (.inl ?_) (hK _ (List.mem_map.2 ⟨p, hp, rfl⟩) ν' V w' h1 h2 h3)
        unfold execOp
        rw [hop]
        exact run_val h4
      · cases h
    · cases h
    · rename_i hn
      split at h
      · rename_i v s' hm
        injection h with h
        subst h
        obtain ⟨ν', V, w', h1, h2, h3, h4⟩ := memA_rel hW hF hm
        exact one_value (noDefer_of (P := P) (s := s) (T := T) (.inr (.inr (by rw [hm]; simp)))) h4 (hK _ (List.mem_singleton.2 rfl) ν' V w' h1 h2 h3)
      · cases h
end

end Go.Proofs.YtlijlapkhimaoaaGreatDoor
