/- ScriptPuts: its arguments, its run. -/
import Derived.Test.YtcjbpaiomcfgnaaGreatDoorHpR
import Derived.Test.YtcjbpaiomcfgnaaGreatDoorGf
namespace Go.Proofs.YtcjbpaiomcfgnaaGreatDoor
open Go Go.RowKit
set_option maxRecDepth 100000
def actTs : List TypeId := [5, 5, 3, 5, 39, 5, 39, 5, 39, 39, 5, 5, 42, 5, 39, 5, 39, 39, 39, 39, 43, 5, 39]
def claimTs : List TypeId := [5, 39, 5, 39]
theorem act_flat : flatOf Tryz.prog 6 47 = some actTs := by kernel_rfl
theorem act_noArr : noArr Tryz.prog 6 47 = true := by kernel_rfl
theorem act_ts : flatTs Tryz.prog 8 47 = some actTs := by kernel_rfl
theorem act_size : (Tryz.prog.info? 47).map (·.size) = some 23 := by kernel_rfl
theorem act_bytes : 0 < Tryz.prog.bytesOf 47 := of_decide_eq_true (by kernel_rfl)
theorem claim_flat : flatOf Tryz.prog 6 89 = some claimTs := by kernel_rfl
theorem claim_ts : flatTs Tryz.prog 8 89 = some claimTs := by kernel_rfl
theorem claim_size : (Tryz.prog.info? 89).map (·.size) = some 4 := by kernel_rfl
theorem claim_int : claimTs.all (isIntT Tryz.prog) = true := by kernel_rfl
theorem claim_bytes : 0 < Tryz.prog.bytesOf 89 := of_decide_eq_true (by kernel_rfl)
theorem act_kinds : actTs.all (fun t => isIntT Tryz.prog t || Nat.beq t 43) = true := by kernel_rfl
theorem all2_nilW {α β : Type} {R : α → β → Prop} {cs : List α} (h : All2 R cs []) : cs = [] := by
 cases cs with
 | nil => rfl
 | cons _ _ => exact h.elim
theorem all2_consW {α β : Type} {R : α → β → Prop} {cs : List α} {t : β} {ts : List β} (h : All2 R cs (t :: ts)) : ∃ c cs', cs = c :: cs' ∧ R c t ∧ All2 R cs' ts := by
 cases cs with
 | nil => exact h.elim
 | cons c cs => exact ⟨c, cs, rfl, h.1, h.2⟩
section
variable {H : Type} {enc : TypeId × Value → H} {w : World} {B : Nat}
theorem int_in {c : Value} {t : TypeId} {k : IntKind} (ht : Tryz.prog.underlying t = some (.int k)) (h : LeafW enc Tryz.prog w B c t) : ∃ n, c = .int k n ∧ k.wrap n = n := by
 obtain ⟨n, e, hw⟩ := Leaf.int h.leaf ht
 simp only [Lit.wf, Bool.and_eq_true, decide_eq_true_eq] at hw
 exact ⟨n, e, wrap_in hw.1 hw.2⟩
/-- lines are not too many -/
def linesQ (B : Nat) (t : TypeId) (d : Dat) : Prop := t = 43 → (listOf d).length ≤ B
theorem act_cell {tc : TypeId} (ht : tc ∈ actTs) {c : Value} (h : LeafW enc Tryz.prog w B c tc) : ∃ d, DeepC Tryz.prog (fun g => w.heap[g]?) tc c d ∧ linesQ B tc d := by
 have hk := List.all_eq_true.1 act_kinds tc ht
 simp only [Bool.or_eq_true] at hk
 rcases hk with hk | hk
 ·refine ⟨_, leaf_num h.leaf hk _, fun he => ?_⟩
  subst he
  exact absurd hk (by simp [isIntT, Tryz.underlying43])
 ·have hk := Nat.eq_of_beq_eq_true hk
  subst hk
  obtain ⟨xs, h1, _, h2⟩ := row_of Tryz.underlying43 claim_flat claim_ts claim_size (by decide) claim_int claim_bytes h
  exact ⟨_, h1.deep Tryz.underlying43, fun _ => h2⟩
theorem acts_in {c : Value} (h : LeafW enc Tryz.prog w B c 24) : ∃ xs, DatOk Tryz.prog (fun g => w.heap[g]?) (.r 47 c xs) ∧ c.oneCell' = true ∧ xs.length ≤ B ∧ ∀ v ∈ actsZ (.r 47 c xs), v.2.1.length ≤ B := by
 obtain ⟨xs, h1, h2, h3, h4⟩ := row_gen (Q := linesQ B) Tryz.underlying24 act_flat act_noArr act_ts act_size (by decide) act_bytes (fun tc ht c hc => act_cell ht hc) h
 refine ⟨xs, h1, h2, h3, fun v hv => ?_⟩
 obtain ⟨x, hx, rfl⟩ := List.mem_map.1 hv
 obtain ⟨ds, rfl, hl, hq⟩ := h4 x hx
 show ((linesOf (.l ds)).map viewL).length ≤ B
 rw [List.length_map]
 have h20 : (20 : Nat) < ds.length := by rw [hl]; decide
 have hd : ds[20]? = some ds[20] := List.getElem?_eq_getElem h20
 have := hq 20 _ 43 hd rfl rfl
 show (match ds[20]? with
  | some d => listOf d
  | none => []).length ≤ B
 rw [hd]
 exact this
end
def datP (a b c d : Int) (v : Value) (xs : List Dat) : Nat → Option Dat
 | 1 => some (.r 47 v xs)
 | 4 => some (.n a)
 | 5 => some (.n b)
 | 6 => some (.n c)
 | 7 => some (.n d)
 | _ => none
theorem symC_den {ν : Nm} {k : IntKind} {j : Nat} {n : Int} (h : ν.x j = some (.n n)) (hw : k.wrap n = n) : den ν (.sym k (.conv k (.x j))) = some (.int k n) := by
 simp only [den, denT, h, hw]
theorem deepA_den {ν : Nm} {j : Nat} {c : Value} {xs : List Dat} (h : ν.x j = some (.r 47 c xs)) (hc : c.oneCell' = true) : den ν (.deep 47 (.x j)) = some c := by
 simp only [den, denT, h]
 rw [if_pos ⟨trivial, hc⟩]
theorem puts_good {H : Type} {enc : TypeId × Value → H} {W : World} {a b c d : Int} {v : Value} (wa : IntKind.i64.wrap a = a) (wb : IntKind.i64.wrap b = b) (wc : IntKind.i64.wrap c = c) (wd : IntKind.i64.wrap d = d) (h : LeafW enc Tryz.prog W reachBytes v 24) (hgl : ∀ ν : Nm, GlobOk ν pgl W) :
  Calls Tryz.prog 3 #[.agg #[.int .i64 a, .int .i64 b, .int .i64 c, .int .i64 d], v] W fun e W' => e = .returned (.bool true) ∧ Below W.heap.size W W' := by
 obtain ⟨xs, h1, h2, h3, h4⟩ := acts_in h
 have hB : reachBytes = 140737488351232 := rfl
 refine eval_trueQ (U := 0) mixed names (prL_puts_ok 0) puts_run (datP a b c d v xs) (fun j hj => ?_) W ?_ (hgl _) ?_ ?_ (VS := [.agg #[.int .i64 a, .int .i64 b, .int .i64 c, .int .i64 d], v])
 ·have hj : 1000000 ≤ j := hj
  unfold datP
  split <;> first | omega | rfl
 ·refine denL_mk ?_ (denL_mk (deepA_den (ν := ⟨fun _ => none, datP a b c d v xs, 0, fun g => W.heap[g]?⟩) rfl h2) rfl)
  have e : denL (⟨fun _ => none, datP a b c d v xs, 0, fun g => W.heap[g]?⟩ : Nm) [.sym .i64 (.conv .i64 (.x 4)), .sym .i64 (.conv .i64 (.x 5)), .sym .i64 (.conv .i64 (.x 6)), .sym .i64 (.conv .i64 (.x 7))] = some [.int .i64 a, .int .i64 b, .int .i64 c, .int .i64 d] :=
   denL_mk (symC_den (j := 4) rfl wa) (denL_mk (symC_den (j := 5) rfl wb) (denL_mk (symC_den (j := 6) rfl wc) (denL_mk (symC_den (j := 7) rfl wd) rfl)))
  simp only [den]
  rw [e]
 ·intro t z hz
  simp only [rowP, List.mem_cons, List.not_mem_nil, or_false] at hz
  rcases hz with hz | hz | hz
  ·cases hz
   exact so_SZL.2 ⟨_, rfl, decide_eq_true fun u hu => Nat.le_trans (h4 u hu) (by rw [hB]; decide)⟩
  ·cases hz
   refine so_cmp_mk (fun _ _ => rfl) (x := xs.length) (y := 1000000000000000) (den_f0.2 ⟨.r 47 v xs, _, rfl, rfl, rfl⟩) rfl (decide_eq_true ?_)
   omega
  ·cases hz
   refine so_cmp_mk (fun _ _ => rfl) (x := xs.length) (y := 0) (den_f0.2 ⟨.l xs, _, den_f15.2 ⟨_, _, _, rfl, rfl⟩, rfl, rfl⟩) rfl (decide_eq_true ?_)
   omega
 ·intro j x hx
  unfold datP at hx
  split at hx <;> first | (cases hx; done) | skip
  all_goals injection hx with hx
  all_goals subst hx
  all_goals first | exact h1 | trivial
end Go.Proofs.YtcjbpaiomcfgnaaGreatDoor
