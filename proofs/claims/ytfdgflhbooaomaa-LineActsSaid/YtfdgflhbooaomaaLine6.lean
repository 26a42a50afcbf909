/- walks: what a kind of operation does to a line -/
import Derived.Test.YtfdgflhbooaomaaLine5
namespace Go.Proofs.Ytfdgflhbooaomaa
open Go.RowKit

structure ClaimM where
  lr : Int
  ln : Int
  vr : Int
  vn : Int
deriving DecidableEq

def ClaimR : Rp ClaimM where
  size := 4
  pos := by omega
  at_ := fun _ _ cs x => cs = [.int .u8 x.lr, .int .u32 x.ln, .int .u8 x.vr, .int .u32 x.vn]
  len := by rintro _ _ _ _ rfl; rfl
  keep := by rintro _ _ _ _ _ _ _ _ rfl; rfl
  one := by rintro _ _ _ _ rfl u hu; simp at hu; rcases hu with rfl | rfl | rfl | rfl <;> rfl

structure OpM where
  r : Int
  n : Int
  d0 : Int
  d1 : Int
  d2 : Int
  d3 : Int
  d4 : Int
  d5 : Int
  d6 : Int
  d7 : Int
  time : Int
  who : Int
  cr : Int
  cn : Int
  kind : Int
  er : Int
  en : Int
  tt : Int
  roles : Int
  depth : Int
  cap : Int
  ar : Int
  an : Int
  vr : Int
  vn : Int
  item : Int
  qty : Int
  price : Int
  lines : List ClaimM

def OpR : Rp OpM where
  size := 29
  pos := by omega
  at_ := fun w D cs o => ∃ A c, cs = [.int .u8 o.r, .int .u32 o.n, .int .u32 o.d0, .int .u32 o.d1, .int .u32 o.d2, .int .u32 o.d3, .int .u32 o.d4, .int .u32 o.d5, .int .u32 o.d6, .int .u32 o.d7, .int .u64 o.time, .int .u32 o.who, .int .u8 o.cr, .int .u32 o.cn, .int .u8 o.kind, .int .u8 o.er, .int .u32 o.en, .int .u32 o.tt, .int .u8 o.roles, .int .u8 o.depth, .int .u64 o.cap, .int .u8 o.ar, .int .u32 o.an, .int .u8 o.vr, .int .u32 o.vn, .int .u32 o.item, .int .u32 o.qty, .int .u32 o.price, .slice A o.lines.length c] ∧ ClaimR.slice.at_ w D [.slice A o.lines.length c] o.lines
  len := by rintro _ _ _ _ ⟨A, c, rfl, _⟩; rfl
  keep := by
    rintro w w' D D' cs x hk hD ⟨A, c, rfl, ha⟩
    exact ⟨A, c, rfl, ClaimR.slice.keep hk hD ha⟩
  one := by
    rintro _ _ _ _ ⟨A, c, rfl, ha⟩ u hu
    simp only [List.mem_cons, List.not_mem_nil, or_false] at hu
    rcases hu with rfl | rfl | rfl | rfl | rfl | rfl | rfl | rfl | rfl | rfl | rfl | rfl | rfl | rfl | rfl | rfl | rfl | rfl | rfl | rfl | rfl | rfl | rfl | rfl | rfl | rfl | rfl | rfl | rfl <;> rfl

/-- two dots are the same -/
theorem dot_eql (w : World) (a b c d : Int) : (binOp .eql 24 (.agg #[.int .u8 a, .int .u32 b]) (.agg #[.int .u8 c, .int .u32 d])).run Try.prog w = .ok (.bool (a == c && b == d)) w := by
  by_cases h1 : a = c <;> by_cases h2 : b = d <;> simp [go_sem, h1, h2]
theorem dot_neq (w : World) (a b c d : Int) : (binOp .neq 24 (.agg #[.int .u8 a, .int .u32 b]) (.agg #[.int .u8 c, .int .u32 d])).run Try.prog w = .ok (.bool (!(a == c && b == d))) w := by
  by_cases h1 : a = c <;> by_cases h2 : b = d <;> simp [go_sem, h1, h2]

/-- only block g, and what is new, has turned; said of the data that lie elsewhere -/
theorem grown_holds {w w' : World} {g : Nat} {D : Nat → Prop} (h : w.grownBy w' (some g)) (hg : ¬ D g) : Holds D w w' := fun p u hp hc => by
  have hlt := World.block_lt_of_cell? w _ hc
  have e := h.block p.block hlt (fun e => hg (by injection e with e; rw [← e]; exact hp))
  rw [World.cell?_of_block (w := w) e]
  exact hc
theorem grown_set {w0 w : World} {g : Nat} (h : w0.grownBy w (some g)) (i : Nat) (u : Value) : w0.grownBy (w.setCell ⟨g, i, none⟩ u) (some g) :=
  ⟨h.os, h.tape, h.output, by simpa [World.setCell] using h.size, fun k hk hne => (Below.heap_setCell w _ u k (fun e => hne (by rw [e]))).trans (h.block k hk hne)⟩
theorem grown_below {w0 w w' : World} {row : Option Nat} (h : w0.grownBy w row) (hb : Below w.heap.size w w') : w0.grownBy w' row :=
  ⟨hb.os.trans h.os, hb.tape.trans h.tape, hb.output.trans h.output, Nat.le_trans h.size hb.size, fun k hk hne => (hb.block k (Nat.lt_of_lt_of_le hk h.size)).trans (h.block k hk hne)⟩

set_option maxHeartbeats 1000000 in
theorem acts2_any (g : Nat) (cs os : Array Value) (w : World) (k : Blk w g 27 cs) (hcs : cs.size = 10) :
    Calls Try.prog 34 #[.pointer (some ⟨g, 0, none⟩), .agg os] w fun e w' => e = .returned (.bool true) ∧ Blk w' g 27 (cs.setIfInBounds 9 (.int .u8 1)) ∧ w.grownBy w' (some g) := by
  have K := hide k
  obtain ⟨k0, f0⟩ := k.rules
  have hlt := k.lt
  have c9 : cs[9]? = some cs[9] := Array.getElem?_eq_getElem (by omega)
  generalize cs[9] = v9 at c9
  clear k
  go_enter Try.func34, Try.ntmps34
  go_wp2
  go_ret
  exact ⟨rfl, (K.out.set_ 9 (.int .u8 1)).alloc _, grown_alloc' (grown_set (World.grownBy.refl w _) _ _) _⟩

set_option maxHeartbeats 1000000 in
theorem acts1_any (g : Nat) (cs os : Array Value) (w : World) (k : Blk w g 27 cs) (hcs : cs.size = 10) (q r n : Int) (hq : os[26]? = some (.int .u32 q)) (hr : os[0]? = some (.int .u8 r)) (hn : os[1]? = some (.int .u32 n)) :
    Calls Try.prog 33 #[.pointer (some ⟨g, 0, none⟩), .agg os] w fun e w' => e = .returned (.bool true) ∧ Blk w' g 27 (((((cs.setIfInBounds 3 (.int .u32 q)).setIfInBounds 5 (.int .u8 r)).setIfInBounds 6 (.int .u32 n)).setIfInBounds 7 (.slice none 0 0)).setIfInBounds 8 (.slice none 0 0)) ∧ w.grownBy w' (some g) := by
  have K := hide k
  have hlt := k.lt
  have hne : w.heap.size ≠ g := by omega
  have c3 : cs[3]? = some cs[3] := Array.getElem?_eq_getElem (by omega)
  have c5 : cs[5]? = some cs[5] := Array.getElem?_eq_getElem (by omega)
  have c6 : cs[6]? = some cs[6] := Array.getElem?_eq_getElem (by omega)
  have c7 : cs[7]? = some cs[7] := Array.getElem?_eq_getElem (by omega)
  have c8 : cs[8]? = some cs[8] := Array.getElem?_eq_getElem (by omega)
  generalize cs[3] = v3 at c3
  generalize cs[5] = v5 at c5
  generalize cs[6] = v6 at c6
  generalize cs[7] = v7 at c7
  generalize cs[8] = v8 at c8
  clear k
  go_enter Try.func33, Try.ntmps33
  go_wp2_with fail
  refine at_code2 w.heap.size 33 g 27 (fun W => w.grownBy W (some g)) (Blk.new _ _ _) (K.out.alloc _) (grown_alloc' (World.grownBy.refl w _) _) ?_
  rintro W k0 k1 hg
  have K0 := hide k0
  have K1 := hide k1
  have HG := hide hg
  obtain ⟨c1, f1⟩ := k1.rules
  clear k0 k1 hg
  obtain ⟨b0, hb0⟩ : ∃ b, b = w.heap.size := ⟨_, rfl⟩
  rw [← hb0] at K0 hne
  rw [← hb0]
  clear hb0
  refine wp_region_seq [(0, 2), (1, 2), (2, 2), (3, 2), (4, 2), (5, 1), (6, 2), (7, 1), (8, 2), (9, 2), (10, 0), (11, 2), (12, 2), (13, 0), (14, 2), (15, 2), (16, 0), (17, 2), (18, 2), (19, 0)] (fun _ => true) (fun w' => Blk w' b0 33 os) (by kernel_rfl) (by kernel_rfl) ?_
  intro ops hops
  have HOPS := hide hops
  clear hops
  refine wpSeq_pure (o := ?ro1) (v := ?rv1) ?rh1 ?rg1 ?rq1 ?ry1 ?_
  case rh1 => rw [HOPS.out]; simp only [List.getElem?_toArray, List.getElem?_cons_succ, List.getElem?_cons_zero]; exact rfl
  case rg1 => rfl
  case rq1 => exact fun _ _ _ h => h
  case ry1 => intro w'; go_simp; try with_reducible rfl
  simp only [Act.put, List.setIfInBounds_toArray, List.set_cons_succ, List.set_cons_zero]
  refine wpSeq_pure (o := ?ro2) (v := ?rv2) ?rh2 ?rg2 ?rq2 ?ry2 ?_
  case rh2 => rw [HOPS.out]; simp only [List.getElem?_toArray, List.getElem?_cons_succ, List.getElem?_cons_zero]; exact rfl
  case rg2 => rfl
  case rq2 => exact fun _ _ _ h => h
  case ry2 => intro w'; go_simp; try with_reducible rfl
  simp only [Act.put, List.setIfInBounds_toArray, List.set_cons_succ, List.set_cons_zero]
  refine wpSeq_pure (o := ?ro3) (v := ?rv3) ?rh3 ?rg3 ?rq3 ?ry3 ?_
  case rh3 => rw [HOPS.out]; simp only [List.getElem?_toArray, List.getElem?_cons_succ, List.getElem?_cons_zero]; exact rfl
  case rg3 => rfl
  case rq3 => exact fun _ _ _ h => h
  case ry3 => intro w'; go_simp; try with_reducible rfl
  simp only [Act.put, List.setIfInBounds_toArray, List.set_cons_succ, List.set_cons_zero]
  refine wpSeq_pure (o := ?ro4) (v := ?rv4) ?rh4 ?rg4 ?rq4 ?ry4 ?_
  case rh4 => rw [HOPS.out]; simp only [List.getElem?_toArray, List.getElem?_cons_succ, List.getElem?_cons_zero]; exact rfl
  case rg4 => rfl
  case rq4 => exact fun _ _ _ h => h
  case ry4 => intro w'; go_simp; try with_reducible rfl
  simp only [Act.put, List.setIfInBounds_toArray, List.set_cons_succ, List.set_cons_zero]
  refine wpSeq_pure (o := ?ro5) (v := ?rv5) ?rh5 ?rg5 ?rq5 ?ry5 ?_
  case rh5 => rw [HOPS.out]; simp only [List.getElem?_toArray, List.getElem?_cons_succ, List.getElem?_cons_zero]; exact rfl
  case rg5 => rfl
  case rq5 => exact fun _ _ _ h => h
  case ry5 => intro w'; go_simp; try with_reducible rfl
  simp only [Act.put, List.setIfInBounds_toArray, List.set_cons_succ, List.set_cons_zero]
  refine wpSeq_read (o := ?ro6) (v := ?rv6) ?rh6 ?rg6 ?rq6 (by exact K0.out) ?ry6 ?_
  case rh6 => rw [HOPS.out]; simp only [List.getElem?_toArray, List.getElem?_cons_succ, List.getElem?_cons_zero]; exact rfl
  case rg6 => rfl
  case rq6 => exact fun _ _ _ h => h
  case ry6 => intro w' hs; obtain ⟨cc, ff⟩ := Blk.rules hs; go_simp; try with_reducible rfl
  simp only [Act.put, List.setIfInBounds_toArray, List.set_cons_succ, List.set_cons_zero]
  refine wpSeq_pure (o := ?ro7) (v := ?rv7) ?rh7 ?rg7 ?rq7 ?ry7 ?_
  case rh7 => rw [HOPS.out]; simp only [List.getElem?_toArray, List.getElem?_cons_succ, List.getElem?_cons_zero]; exact rfl
  case rg7 => rfl
  case rq7 => exact fun _ _ _ h => h
  case ry7 => intro w'; go_simp; try with_reducible rfl
  simp only [Act.put, List.setIfInBounds_toArray, List.set_cons_succ, List.set_cons_zero]
  refine wpSeq_read (o := ?ro8) (v := ?rv8) ?rh8 ?rg8 ?rq8 (by exact K0.out) ?ry8 ?_
  case rh8 => rw [HOPS.out]; simp only [List.getElem?_toArray, List.getElem?_cons_succ, List.getElem?_cons_zero]; exact rfl
  case rg8 => rfl
  case rq8 => exact fun _ _ _ h => h
  case ry8 => intro w' hs; obtain ⟨cc, ff⟩ := Blk.rules hs; go_simp; try with_reducible rfl
  simp only [Act.put, List.setIfInBounds_toArray, List.set_cons_succ, List.set_cons_zero]
  refine wpSeq_pure (o := ?ro9) (v := ?rv9) ?rh9 ?rg9 ?rq9 ?ry9 ?_
  case rh9 => rw [HOPS.out]; simp only [List.getElem?_toArray, List.getElem?_cons_succ, List.getElem?_cons_zero]; exact rfl
  case rg9 => rfl
  case rq9 => exact fun _ _ _ h => h
  case ry9 => intro w'; go_simp; try with_reducible rfl
  simp only [Act.put, List.setIfInBounds_toArray, List.set_cons_succ, List.set_cons_zero]
  refine wpSeq_pure (o := ?ro10) (v := ?rv10) ?rh10 ?rg10 ?rq10 ?ry10 ?_
  case rh10 => rw [HOPS.out]; simp only [List.getElem?_toArray, List.getElem?_cons_succ, List.getElem?_cons_zero]; exact rfl
  case rg10 => rfl
  case rq10 => exact fun _ _ _ h => h
  case ry10 => intro w'; go_simp; try with_reducible rfl
  simp only [Act.put, List.setIfInBounds_toArray, List.set_cons_succ, List.set_cons_zero]
  refine wpSeq_step (o := ?ro11) ?rh11 (fun K hK => ?_)
  case rh11 => rw [HOPS.out]; simp only [List.getElem?_toArray, List.getElem?_cons_succ, List.getElem?_cons_zero]; exact rfl
  go_simp
  refine hK _ _ (fun _ h => Blk.drew (Blk.far (show Blk _ b0 _ os from h) (by simpa using hne) _)) ?_
  clear hK K
  refine wpSeq_pure (o := ?ro12) (v := ?rv12) ?rh12 ?rg12 ?rq12 ?ry12 ?_
  case rh12 => rw [HOPS.out]; simp only [List.getElem?_toArray, List.getElem?_cons_succ, List.getElem?_cons_zero]; exact rfl
  case rg12 => rfl
  case rq12 => exact fun _ _ _ h => h
  case ry12 => intro w'; go_simp; try with_reducible rfl
  simp only [Act.put, List.setIfInBounds_toArray, List.set_cons_succ, List.set_cons_zero]
  refine wpSeq_pure (o := ?ro13) (v := ?rv13) ?rh13 ?rg13 ?rq13 ?ry13 ?_
  case rh13 => rw [HOPS.out]; simp only [List.getElem?_toArray, List.getElem?_cons_succ, List.getElem?_cons_zero]; exact rfl
  case rg13 => rfl
  case rq13 => exact fun _ _ _ h => h
  case ry13 => intro w'; go_simp; try with_reducible rfl
  simp only [Act.put, List.setIfInBounds_toArray, List.set_cons_succ, List.set_cons_zero]
  refine wpSeq_step (o := ?ro14) ?rh14 (fun K hK => ?_)
  case rh14 => rw [HOPS.out]; simp only [List.getElem?_toArray, List.getElem?_cons_succ, List.getElem?_cons_zero]; exact rfl
  go_simp
  refine hK _ _ (fun _ h => Blk.drew (Blk.far (Blk.far (show Blk _ b0 _ os from h) (by simpa using hne) _) (by simpa using hne) _)) ?_
  clear hK K
  refine wpSeq_pure (o := ?ro15) (v := ?rv15) ?rh15 ?rg15 ?rq15 ?ry15 ?_
  case rh15 => rw [HOPS.out]; simp only [List.getElem?_toArray, List.getElem?_cons_succ, List.getElem?_cons_zero]; exact rfl
  case rg15 => rfl
  case rq15 => exact fun _ _ _ h => h
  case ry15 => intro w'; go_simp; try with_reducible rfl
  simp only [Act.put, List.setIfInBounds_toArray, List.set_cons_succ, List.set_cons_zero]
  refine wpSeq_pure (o := ?ro16) (v := ?rv16) ?rh16 ?rg16 ?rq16 ?ry16 ?_
  case rh16 => rw [HOPS.out]; simp only [List.getElem?_toArray, List.getElem?_cons_succ, List.getElem?_cons_zero]; exact rfl
  case rg16 => rfl
  case rq16 => exact fun _ _ _ h => h
  case ry16 => intro w'; go_simp; try with_reducible rfl
  simp only [Act.put, List.setIfInBounds_toArray, List.set_cons_succ, List.set_cons_zero]
  refine wpSeq_step (o := ?ro17) ?rh17 (fun K hK => ?_)
  case rh17 => rw [HOPS.out]; simp only [List.getElem?_toArray, List.getElem?_cons_succ, List.getElem?_cons_zero]; exact rfl
  go_simp
  refine hK _ _ (fun _ h => Blk.drew (Blk.far (show Blk _ b0 _ os from h) (by simpa using hne) _)) ?_
  clear hK K
  refine wpSeq_pure (o := ?ro18) (v := ?rv18) ?rh18 ?rg18 ?rq18 ?ry18 ?_
  case rh18 => rw [HOPS.out]; simp only [List.getElem?_toArray, List.getElem?_cons_succ, List.getElem?_cons_zero]; exact rfl
  case rg18 => rfl
  case rq18 => exact fun _ _ _ h => h
  case ry18 => intro w'; go_simp; try with_reducible rfl
  simp only [Act.put, List.setIfInBounds_toArray, List.set_cons_succ, List.set_cons_zero]
  refine wpSeq_pure (o := ?ro19) (v := ?rv19) ?rh19 ?rg19 ?rq19 ?ry19 ?_
  case rh19 => rw [HOPS.out]; simp only [List.getElem?_toArray, List.getElem?_cons_succ, List.getElem?_cons_zero]; exact rfl
  case rg19 => rfl
  case rq19 => exact fun _ _ _ h => h
  case ry19 => intro w'; go_simp; try with_reducible rfl
  simp only [Act.put, List.setIfInBounds_toArray, List.set_cons_succ, List.set_cons_zero]
  refine wpSeq_step (o := ?ro20) ?rh20 (fun K hK => ?_)
  case rh20 => rw [HOPS.out]; simp only [List.getElem?_toArray, List.getElem?_cons_succ, List.getElem?_cons_zero]; exact rfl
  go_simp
  refine hK _ _ (fun _ h => Blk.drew (Blk.far (show Blk _ b0 _ os from h) (by simpa using hne) _)) ?_
  clear hK K
  refine wpSeq_nil ?_
  go_wp2
  go_ret
  exact ⟨rfl, Blk.drew (((((K1.out.set_ 3 _).set_ 5 _).set_ 6 _).set_ 7 _).set_ 8 _), grown_drew' (grown_set (grown_set (grown_set (grown_set (grown_set HG.out _ _) _ _) _ _) _ _) _ _)⟩

set_option maxHeartbeats 1000000 in
theorem acts3_any (D : Nat → Prop) (g : Nat) (cs os : Array Value) (w : World) (k : Blk w g 27 cs) (hcs : cs.size = 10) (hD : ¬ D g) (v : Value) (l : List Int) (hv : cs[7]? = some v) (h : U32s.at_ w D [v] l) (hup : rising l = true) (hn : l.length ≤ 1000) (who vr vn ovr ovn : Int) (hvr : cs[5]? = some (.int .u8 vr)) (hvn : cs[6]? = some (.int .u32 vn))
    (hwho : os[11]? = some (.int .u32 who)) (hor : os[23]? = some (.int .u8 ovr)) (hon : os[24]? = some (.int .u32 ovn)) :
    Calls Try.prog 35 #[.pointer (some ⟨g, 0, none⟩), .agg os] w fun e w' => ∃ A c, e = .returned (.bool (vr == ovr && vn == ovn)) ∧ Blk w' g 27 (cs.setIfInBounds 7 (.slice A (ins l who).length c)) ∧ U32s.at_ w' (dom D w.heap.size [] w') [.slice A (ins l who).length c] (ins l who) ∧ w.grownBy w' (some g) := by
  have K := hide k
  have hlt := k.lt
  have hne : w.heap.size ≠ g := by omega
  have H0 := hide (U32s.boxed (U32s.start h) (w' := w.alloc (.cells os 33)) ((Below.refl _ _).alloc (Nat.le_refl _) _) (L' := [w.heap.size]) (by simp))
  clear k h hcs
  go_enter Try.func35, Try.ntmps35
  go_wp2_with fail
  refine at_code2 w.heap.size 33 g 27 (fun W => w.grownBy W (some g) ∧ U32s.at_ W (dom D w.heap.size [w.heap.size] W) [v] l) (Blk.new _ _ _) (K.out.alloc _) ⟨grown_alloc' (World.grownBy.refl w _) _, H0.out⟩ ?_
  rintro W k0 k1 ⟨hg, h⟩
  have K0 := hide k0
  have K1 := hide k1
  have HG := hide hg
  have H := hide h
  have HL : Hid (∀ g ∈ [w.heap.size], g < W.heap.size) := by intro g hg; simp at hg; subst hg; exact K0.out.lt
  obtain ⟨c1, f1⟩ := k1.rules
  obtain ⟨c0, f0⟩ := k0.rules
  have l0 := k0.lt
  have l1 := k1.lt
  clear k0 k1 hg h H0
  have s0 : Below W.heap.size W W.drew := (Below.refl _ _).drew
  refine wp_region_seq [(0, 2), (1, 2), (2, 2), (3, 2), (4, 1), (5, 2), (6, 1), (7, 0), (8, 2), (9, 2), (10, 0)] (fun j => !(j == 10)) (fun w' => Below W.heap.size W w') (by kernel_rfl) (by kernel_rfl) ?_
  intro ops hops
  have HOPS := hide hops
  clear hops
  refine wpSeq_pure (o := ?ro21) (v := ?rv21) ?rh21 ?rg21 ?rq21 ?ry21 ?_
  case rh21 => rw [HOPS.out]; simp only [List.getElem?_toArray, List.getElem?_cons_succ, List.getElem?_cons_zero]; exact rfl
  case rg21 => rfl
  case rq21 => exact fun _ _ _ h => h
  case ry21 => intro w'; go_simp; try with_reducible rfl
  simp only [Act.put, List.setIfInBounds_toArray, List.set_cons_succ, List.set_cons_zero]
  refine wpSeq_pure (o := ?ro22) (v := ?rv22) ?rh22 ?rg22 ?rq22 ?ry22 ?_
  case rh22 => rw [HOPS.out]; simp only [List.getElem?_toArray, List.getElem?_cons_succ, List.getElem?_cons_zero]; exact rfl
  case rg22 => rfl
  case rq22 => exact fun _ _ _ h => h
  case ry22 => intro w'; go_simp; try with_reducible rfl
  simp only [Act.put, List.setIfInBounds_toArray, List.set_cons_succ, List.set_cons_zero]
  refine wpSeq_pure (o := ?ro23) (v := ?rv23) ?rh23 ?rg23 ?rq23 ?ry23 ?_
  case rh23 => rw [HOPS.out]; simp only [List.getElem?_toArray, List.getElem?_cons_succ, List.getElem?_cons_zero]; exact rfl
  case rg23 => rfl
  case rq23 => exact fun _ _ _ h => h
  case ry23 => intro w'; go_simp; try with_reducible rfl
  simp only [Act.put, List.setIfInBounds_toArray, List.set_cons_succ, List.set_cons_zero]
  refine wpSeq_pure (o := ?ro24) (v := ?rv24) ?rh24 ?rg24 ?rq24 ?ry24 ?_
  case rh24 => rw [HOPS.out]; simp only [List.getElem?_toArray, List.getElem?_cons_succ, List.getElem?_cons_zero]; exact rfl
  case rg24 => rfl
  case rq24 => exact fun _ _ _ h => h
  case ry24 => intro w'; go_simp; try with_reducible rfl
  simp only [Act.put, List.setIfInBounds_toArray, List.set_cons_succ, List.set_cons_zero]
  refine wpSeq_read (o := ?ro25) (v := ?rv25) ?rh25 ?rg25 ?rq25 s0 ?ry25 ?_
  case rh25 => rw [HOPS.out]; simp only [List.getElem?_toArray, List.getElem?_cons_succ, List.getElem?_cons_zero]; exact rfl
  case rg25 => rfl
  case rq25 => exact fun _ _ _ h => h
  case ry25 => intro w' hs; obtain ⟨cc, ff⟩ := bcell hs; go_simp; try with_reducible rfl
  simp only [Act.put, List.setIfInBounds_toArray, List.set_cons_succ, List.set_cons_zero]
  refine wpSeq_pure (o := ?ro26) (v := ?rv26) ?rh26 ?rg26 ?rq26 ?ry26 ?_
  case rh26 => rw [HOPS.out]; simp only [List.getElem?_toArray, List.getElem?_cons_succ, List.getElem?_cons_zero]; exact rfl
  case rg26 => rfl
  case rq26 => exact fun _ _ _ h => h
  case ry26 => intro w'; go_simp; try with_reducible rfl
  simp only [Act.put, List.setIfInBounds_toArray, List.set_cons_succ, List.set_cons_zero]
  refine wpSeq_read (o := ?ro27) (v := ?rv27) ?rh27 ?rg27 ?rq27 s0 ?ry27 ?_
  case rh27 => rw [HOPS.out]; simp only [List.getElem?_toArray, List.getElem?_cons_succ, List.getElem?_cons_zero]; exact rfl
  case rg27 => rfl
  case rq27 => exact fun _ _ _ h => h
  case ry27 => intro w' hs; obtain ⟨cc, ff⟩ := bcell hs; go_simp; try with_reducible rfl
  simp only [Act.put, List.setIfInBounds_toArray, List.set_cons_succ, List.set_cons_zero]
  refine wpSeq_step (o := ?ro28) ?rh28 (fun K hK => ?_)
  case rh28 => rw [HOPS.out]; simp only [List.getElem?_toArray, List.getElem?_cons_succ, List.getElem?_cons_zero]; exact rfl
  go_simp
  refine (put_any _ _ l who _ (by exact U32s.after H.out s0) hup hn).mono ?_
  rintro e w1 ⟨A1, a1, rfl, h1, hb1⟩
  have s1 := undrew hb1
  have H1 := hide (U32s.called h1 HL.out HG.out.size)
  have K0' := hide (K0.out.after s1)
  have K1' := hide (K1.out.after s1)
  have HG' := hide (grown_below HG.out s1)
  obtain ⟨c2, f2⟩ := K1'.out.rules
  clear h1 hb1 c1 f1
  refine hK _ _ (fun _ _ => s1) ?_
  clear hK K
  refine wpSeq_pure (o := ?ro29) (v := ?rv29) ?rh29 ?rg29 ?rq29 ?ry29 ?_
  case rh29 => rw [HOPS.out]; simp only [List.getElem?_toArray, List.getElem?_cons_succ, List.getElem?_cons_zero]; exact rfl
  case rg29 => rfl
  case rq29 => exact fun _ _ _ h => h
  case ry29 => intro w'; go_simp; try with_reducible rfl
  simp only [Act.put, List.setIfInBounds_toArray, List.set_cons_succ, List.set_cons_zero]
  refine wpSeq_pure (o := ?ro30) (v := ?rv30) ?rh30 ?rg30 ?rq30 ?ry30 ?_
  case rh30 => rw [HOPS.out]; simp only [List.getElem?_toArray, List.getElem?_cons_succ, List.getElem?_cons_zero]; exact rfl
  case rg30 => rfl
  case rq30 => exact fun _ _ _ h => h
  case ry30 => intro w'; go_simp; try with_reducible rfl
  simp only [Act.put, List.setIfInBounds_toArray, List.set_cons_succ, List.set_cons_zero]
  refine wpSeq_step (o := ?ro31) ?rh31 (fun K hK => ?_)
  case rh31 => rw [HOPS.out]; simp only [List.getElem?_toArray, List.getElem?_cons_succ, List.getElem?_cons_zero]; exact rfl
  go_simp
  refine hK _ _ (fun h => by cases h) ?_
  clear hK K
  refine wpSeq_nil ?_
  go_wp2_with fail
  refine at_code2 w.heap.size 33 g 27 (fun W => w.grownBy W (some g) ∧ U32s.at_ W (dom D w.heap.size [] W) [.slice A1 (ins l who).length a1] (ins l who)) (K0'.out.far (by simpa using hne) _) (K1'.out.set_ _ _) ⟨grown_set HG'.out _ _, U32s.keep (Holds.setCell (fun hd => ?_) _) (fun b h _ => ⟨by simpa [World.setCell] using h.1, h.2.1, by simp⟩) H1.out⟩ ?_
  · rcases hd.2.1 with h | h
    · exact hD h
    · simp at h; omega
  rintro W2 k2 k3 ⟨hg2, h2⟩
  have K2 := hide k2
  have K3 := hide k3
  have HG2 := hide hg2
  have H2 := hide h2
  obtain ⟨c4, f4⟩ := k2.rules
  obtain ⟨c5, f5⟩ := k3.rules
  clear k2 k3 hg2 h2 c0 f0 c2 f2
  have s2 : Below W2.heap.size W2 W2.drew := (Below.refl _ _).drew
  have hde := dot_eql
  have l2 := K2.out.lt
  have l3 := K3.out.lt
  refine wp_region_seq [(0, 2), (1, 2), (2, 2), (3, 1), (4, 2), (5, 1), (6, 2), (7, 2)] (fun _ => true) (fun w' => Below W2.heap.size W2 w') (by kernel_rfl) (by kernel_rfl) ?_
  intro ops hops
  have HOPS := hide hops
  clear hops
  refine wpSeq_pure (o := ?ro32) (v := ?rv32) ?rh32 ?rg32 ?rq32 ?ry32 ?_
  case rh32 => rw [HOPS.out]; simp only [List.getElem?_toArray, List.getElem?_cons_succ, List.getElem?_cons_zero]; exact rfl
  case rg32 => rfl
  case rq32 => exact fun _ _ _ h => h
  case ry32 => intro w'; go_simp; try with_reducible rfl
  simp only [Act.put, List.setIfInBounds_toArray, List.set_cons_succ, List.set_cons_zero]
  refine wpSeq_pure (o := ?ro33) (v := ?rv33) ?rh33 ?rg33 ?rq33 ?ry33 ?_
  case rh33 => rw [HOPS.out]; simp only [List.getElem?_toArray, List.getElem?_cons_succ, List.getElem?_cons_zero]; exact rfl
  case rg33 => rfl
  case rq33 => exact fun _ _ _ h => h
  case ry33 => intro w'; go_simp; try with_reducible rfl
  simp only [Act.put, List.setIfInBounds_toArray, List.set_cons_succ, List.set_cons_zero]
  refine wpSeq_pure (o := ?ro34) (v := ?rv34) ?rh34 ?rg34 ?rq34 ?ry34 ?_
  case rh34 => rw [HOPS.out]; simp only [List.getElem?_toArray, List.getElem?_cons_succ, List.getElem?_cons_zero]; exact rfl
  case rg34 => rfl
  case rq34 => exact fun _ _ _ h => h
  case ry34 => intro w'; go_simp; try with_reducible rfl
  simp only [Act.put, List.setIfInBounds_toArray, List.set_cons_succ, List.set_cons_zero]
  refine wpSeq_read (o := ?ro35) (v := ?rv35) ?rh35 ?rg35 ?rq35 s2 ?ry35 ?_
  case rh35 => rw [HOPS.out]; simp only [List.getElem?_toArray, List.getElem?_cons_succ, List.getElem?_cons_zero]; exact rfl
  case rg35 => rfl
  case rq35 => exact fun _ _ _ h => h
  case ry35 => intro w' hs; obtain ⟨cc, ff⟩ := bcell hs; go_simp; try with_reducible rfl
  simp only [Act.put, List.setIfInBounds_toArray, List.set_cons_succ, List.set_cons_zero]
  refine wpSeq_pure (o := ?ro36) (v := ?rv36) ?rh36 ?rg36 ?rq36 ?ry36 ?_
  case rh36 => rw [HOPS.out]; simp only [List.getElem?_toArray, List.getElem?_cons_succ, List.getElem?_cons_zero]; exact rfl
  case rg36 => rfl
  case rq36 => exact fun _ _ _ h => h
  case ry36 => intro w'; go_simp; try with_reducible rfl
  simp only [Act.put, List.setIfInBounds_toArray, List.set_cons_succ, List.set_cons_zero]
  refine wpSeq_read (o := ?ro37) (v := ?rv37) ?rh37 ?rg37 ?rq37 s2 ?ry37 ?_
  case rh37 => rw [HOPS.out]; simp only [List.getElem?_toArray, List.getElem?_cons_succ, List.getElem?_cons_zero]; exact rfl
  case rg37 => rfl
  case rq37 => exact fun _ _ _ h => h
  case ry37 => intro w' hs; obtain ⟨cc, ff⟩ := bcell hs; go_simp; try with_reducible rfl
  simp only [Act.put, List.setIfInBounds_toArray, List.set_cons_succ, List.set_cons_zero]
  refine wpSeq_pure (o := ?ro38) (v := ?rv38) ?rh38 ?rg38 ?rq38 ?ry38 ?_
  case rh38 => rw [HOPS.out]; simp only [List.getElem?_toArray, List.getElem?_cons_succ, List.getElem?_cons_zero]; exact rfl
  case rg38 => rfl
  case rq38 => exact fun _ _ _ h => h
  case ry38 => intro w'; go_simp; try with_reducible rfl
  simp only [Act.put, List.setIfInBounds_toArray, List.set_cons_succ, List.set_cons_zero]
  refine wpSeq_pure (o := ?ro39) (v := ?rv39) ?rh39 ?rg39 ?rq39 ?ry39 ?_
  case rh39 => rw [HOPS.out]; simp only [List.getElem?_toArray, List.getElem?_cons_succ, List.getElem?_cons_zero]; exact rfl
  case rg39 => rfl
  case rq39 => exact fun _ _ _ h => h
  case ry39 => intro w'; go_simp; try with_reducible rfl
  simp only [Act.put, List.setIfInBounds_toArray, List.set_cons_succ, List.set_cons_zero]
  refine wpSeq_nil ?_
  go_wp2
  go_ret
  exact ⟨A1, a1, rfl, K3.out, H2.out, grown_drew' HG2.out⟩

set_option maxHeartbeats 1000000 in
theorem acts4_any (D : Nat → Prop) (g : Nat) (cs os : Array Value) (w : World) (k : Blk w g 27 cs) (hcs : cs.size = 10) (hD : ¬ D g) (v : Value) (l : List Int) (hv : cs[8]? = some v) (h : U32s.at_ w D [v] l) (hup : rising l = true) (hn : l.length ≤ 1000) (who vr vn ovr ovn : Int) (hvr : cs[5]? = some (.int .u8 vr)) (hvn : cs[6]? = some (.int .u32 vn))
    (hwho : os[11]? = some (.int .u32 who)) (hor : os[23]? = some (.int .u8 ovr)) (hon : os[24]? = some (.int .u32 ovn)) :
    Calls Try.prog 37 #[.pointer (some ⟨g, 0, none⟩), .agg os] w fun e w' => ∃ A c, e = .returned (.bool (vr == ovr && vn == ovn)) ∧ Blk w' g 27 (cs.setIfInBounds 8 (.slice A (ins l who).length c)) ∧ U32s.at_ w' (dom D w.heap.size [] w') [.slice A (ins l who).length c] (ins l who) ∧ w.grownBy w' (some g) := by
  have K := hide k
  have hlt := k.lt
  have hne : w.heap.size ≠ g := by omega
  have H0 := hide (U32s.boxed (U32s.start h) (w' := w.alloc (.cells os 33)) ((Below.refl _ _).alloc (Nat.le_refl _) _) (L' := [w.heap.size]) (by simp))
  clear k h hcs
  go_enter Try.func37, Try.ntmps37
  go_wp2_with fail
  refine at_code2 w.heap.size 33 g 27 (fun W => w.grownBy W (some g) ∧ U32s.at_ W (dom D w.heap.size [w.heap.size] W) [v] l) (Blk.new _ _ _) (K.out.alloc _) ⟨grown_alloc' (World.grownBy.refl w _) _, H0.out⟩ ?_
  rintro W k0 k1 ⟨hg, h⟩
  have K0 := hide k0
  have K1 := hide k1
  have HG := hide hg
  have H := hide h
  have HL : Hid (∀ g ∈ [w.heap.size], g < W.heap.size) := by intro g hg; simp at hg; subst hg; exact K0.out.lt
  obtain ⟨c1, f1⟩ := k1.rules
  obtain ⟨c0, f0⟩ := k0.rules
  have l0 := k0.lt
  have l1 := k1.lt
  clear k0 k1 hg h H0
  have s0 : Below W.heap.size W W.drew := (Below.refl _ _).drew
  refine wp_region_seq [(0, 2), (1, 2), (2, 2), (3, 2), (4, 1), (5, 2), (6, 1), (7, 0), (8, 2), (9, 2), (10, 0)] (fun j => !(j == 10)) (fun w' => Below W.heap.size W w') (by kernel_rfl) (by kernel_rfl) ?_
  intro ops hops
  have HOPS := hide hops
  clear hops
  refine wpSeq_pure (o := ?ro40) (v := ?rv40) ?rh40 ?rg40 ?rq40 ?ry40 ?_
  case rh40 => rw [HOPS.out]; simp only [List.getElem?_toArray, List.getElem?_cons_succ, List.getElem?_cons_zero]; exact rfl
  case rg40 => rfl
  case rq40 => exact fun _ _ _ h => h
  case ry40 => intro w'; go_simp; try with_reducible rfl
  simp only [Act.put, List.setIfInBounds_toArray, List.set_cons_succ, List.set_cons_zero]
  refine wpSeq_pure (o := ?ro41) (v := ?rv41) ?rh41 ?rg41 ?rq41 ?ry41 ?_
  case rh41 => rw [HOPS.out]; simp only [List.getElem?_toArray, List.getElem?_cons_succ, List.getElem?_cons_zero]; exact rfl
  case rg41 => rfl
  case rq41 => exact fun _ _ _ h => h
  case ry41 => intro w'; go_simp; try with_reducible rfl
  simp only [Act.put, List.setIfInBounds_toArray, List.set_cons_succ, List.set_cons_zero]
  refine wpSeq_pure (o := ?ro42) (v := ?rv42) ?rh42 ?rg42 ?rq42 ?ry42 ?_
  case rh42 => rw [HOPS.out]; simp only [List.getElem?_toArray, List.getElem?_cons_succ, List.getElem?_cons_zero]; exact rfl
  case rg42 => rfl
  case rq42 => exact fun _ _ _ h => h
  case ry42 => intro w'; go_simp; try with_reducible rfl
  simp only [Act.put, List.setIfInBounds_toArray, List.set_cons_succ, List.set_cons_zero]
  refine wpSeq_pure (o := ?ro43) (v := ?rv43) ?rh43 ?rg43 ?rq43 ?ry43 ?_
  case rh43 => rw [HOPS.out]; simp only [List.getElem?_toArray, List.getElem?_cons_succ, List.getElem?_cons_zero]; exact rfl
  case rg43 => rfl
  case rq43 => exact fun _ _ _ h => h
  case ry43 => intro w'; go_simp; try with_reducible rfl
  simp only [Act.put, List.setIfInBounds_toArray, List.set_cons_succ, List.set_cons_zero]
  refine wpSeq_read (o := ?ro44) (v := ?rv44) ?rh44 ?rg44 ?rq44 s0 ?ry44 ?_
  case rh44 => rw [HOPS.out]; simp only [List.getElem?_toArray, List.getElem?_cons_succ, List.getElem?_cons_zero]; exact rfl
  case rg44 => rfl
  case rq44 => exact fun _ _ _ h => h
  case ry44 => intro w' hs; obtain ⟨cc, ff⟩ := bcell hs; go_simp; try with_reducible rfl
  simp only [Act.put, List.setIfInBounds_toArray, List.set_cons_succ, List.set_cons_zero]
  refine wpSeq_pure (o := ?ro45) (v := ?rv45) ?rh45 ?rg45 ?rq45 ?ry45 ?_
  case rh45 => rw [HOPS.out]; simp only [List.getElem?_toArray, List.getElem?_cons_succ, List.getElem?_cons_zero]; exact rfl
  case rg45 => rfl
  case rq45 => exact fun _ _ _ h => h
  case ry45 => intro w'; go_simp; try with_reducible rfl
  simp only [Act.put, List.setIfInBounds_toArray, List.set_cons_succ, List.set_cons_zero]
  refine wpSeq_read (o := ?ro46) (v := ?rv46) ?rh46 ?rg46 ?rq46 s0 ?ry46 ?_
  case rh46 => rw [HOPS.out]; simp only [List.getElem?_toArray, List.getElem?_cons_succ, List.getElem?_cons_zero]; exact rfl
  case rg46 => rfl
  case rq46 => exact fun _ _ _ h => h
  case ry46 => intro w' hs; obtain ⟨cc, ff⟩ := bcell hs; go_simp; try with_reducible rfl
  simp only [Act.put, List.setIfInBounds_toArray, List.set_cons_succ, List.set_cons_zero]
  refine wpSeq_step (o := ?ro47) ?rh47 (fun K hK => ?_)
  case rh47 => rw [HOPS.out]; simp only [List.getElem?_toArray, List.getElem?_cons_succ, List.getElem?_cons_zero]; exact rfl
  go_simp
  refine (put_any _ _ l who _ (by exact U32s.after H.out s0) hup hn).mono ?_
  rintro e w1 ⟨A1, a1, rfl, h1, hb1⟩
  have s1 := undrew hb1
  have H1 := hide (U32s.called h1 HL.out HG.out.size)
  have K0' := hide (K0.out.after s1)
  have K1' := hide (K1.out.after s1)
  have HG' := hide (grown_below HG.out s1)
  obtain ⟨c2, f2⟩ := K1'.out.rules
  clear h1 hb1 c1 f1
  refine hK _ _ (fun _ _ => s1) ?_
  clear hK K
  refine wpSeq_pure (o := ?ro48) (v := ?rv48) ?rh48 ?rg48 ?rq48 ?ry48 ?_
  case rh48 => rw [HOPS.out]; simp only [List.getElem?_toArray, List.getElem?_cons_succ, List.getElem?_cons_zero]; exact rfl
  case rg48 => rfl
  case rq48 => exact fun _ _ _ h => h
  case ry48 => intro w'; go_simp; try with_reducible rfl
  simp only [Act.put, List.setIfInBounds_toArray, List.set_cons_succ, List.set_cons_zero]
  refine wpSeq_pure (o := ?ro49) (v := ?rv49) ?rh49 ?rg49 ?rq49 ?ry49 ?_
  case rh49 => rw [HOPS.out]; simp only [List.getElem?_toArray, List.getElem?_cons_succ, List.getElem?_cons_zero]; exact rfl
  case rg49 => rfl
  case rq49 => exact fun _ _ _ h => h
  case ry49 => intro w'; go_simp; try with_reducible rfl
  simp only [Act.put, List.setIfInBounds_toArray, List.set_cons_succ, List.set_cons_zero]
  refine wpSeq_step (o := ?ro50) ?rh50 (fun K hK => ?_)
  case rh50 => rw [HOPS.out]; simp only [List.getElem?_toArray, List.getElem?_cons_succ, List.getElem?_cons_zero]; exact rfl
  go_simp
  refine hK _ _ (fun h => by cases h) ?_
  clear hK K
  refine wpSeq_nil ?_
  go_wp2_with fail
  refine at_code2 w.heap.size 33 g 27 (fun W => w.grownBy W (some g) ∧ U32s.at_ W (dom D w.heap.size [] W) [.slice A1 (ins l who).length a1] (ins l who)) (K0'.out.far (by simpa using hne) _) (K1'.out.set_ _ _) ⟨grown_set HG'.out _ _, U32s.keep (Holds.setCell (fun hd => ?_) _) (fun b h _ => ⟨by simpa [World.setCell] using h.1, h.2.1, by simp⟩) H1.out⟩ ?_
  · rcases hd.2.1 with h | h
    · exact hD h
    · simp at h; omega
  rintro W2 k2 k3 ⟨hg2, h2⟩
  have K2 := hide k2
  have K3 := hide k3
  have HG2 := hide hg2
  have H2 := hide h2
  obtain ⟨c4, f4⟩ := k2.rules
  obtain ⟨c5, f5⟩ := k3.rules
  clear k2 k3 hg2 h2 c0 f0 c2 f2
  have s2 : Below W2.heap.size W2 W2.drew := (Below.refl _ _).drew
  have hde := dot_eql
  have l2 := K2.out.lt
  have l3 := K3.out.lt
  refine wp_region_seq [(0, 2), (1, 2), (2, 2), (3, 1), (4, 2), (5, 1), (6, 2), (7, 2)] (fun _ => true) (fun w' => Below W2.heap.size W2 w') (by kernel_rfl) (by kernel_rfl) ?_
  intro ops hops
  have HOPS := hide hops
  clear hops
  refine wpSeq_pure (o := ?ro51) (v := ?rv51) ?rh51 ?rg51 ?rq51 ?ry51 ?_
  case rh51 => rw [HOPS.out]; simp only [List.getElem?_toArray, List.getElem?_cons_succ, List.getElem?_cons_zero]; exact rfl
  case rg51 => rfl
  case rq51 => exact fun _ _ _ h => h
  case ry51 => intro w'; go_simp; try with_reducible rfl
  simp only [Act.put, List.setIfInBounds_toArray, List.set_cons_succ, List.set_cons_zero]
  refine wpSeq_pure (o := ?ro52) (v := ?rv52) ?rh52 ?rg52 ?rq52 ?ry52 ?_
  case rh52 => rw [HOPS.out]; simp only [List.getElem?_toArray, List.getElem?_cons_succ, List.getElem?_cons_zero]; exact rfl
  case rg52 => rfl
  case rq52 => exact fun _ _ _ h => h
  case ry52 => intro w'; go_simp; try with_reducible rfl
  simp only [Act.put, List.setIfInBounds_toArray, List.set_cons_succ, List.set_cons_zero]
  refine wpSeq_pure (o := ?ro53) (v := ?rv53) ?rh53 ?rg53 ?rq53 ?ry53 ?_
  case rh53 => rw [HOPS.out]; simp only [List.getElem?_toArray, List.getElem?_cons_succ, List.getElem?_cons_zero]; exact rfl
  case rg53 => rfl
  case rq53 => exact fun _ _ _ h => h
  case ry53 => intro w'; go_simp; try with_reducible rfl
  simp only [Act.put, List.setIfInBounds_toArray, List.set_cons_succ, List.set_cons_zero]
  refine wpSeq_read (o := ?ro54) (v := ?rv54) ?rh54 ?rg54 ?rq54 s2 ?ry54 ?_
  case rh54 => rw [HOPS.out]; simp only [List.getElem?_toArray, List.getElem?_cons_succ, List.getElem?_cons_zero]; exact rfl
  case rg54 => rfl
  case rq54 => exact fun _ _ _ h => h
  case ry54 => intro w' hs; obtain ⟨cc, ff⟩ := bcell hs; go_simp; try with_reducible rfl
  simp only [Act.put, List.setIfInBounds_toArray, List.set_cons_succ, List.set_cons_zero]
  refine wpSeq_pure (o := ?ro55) (v := ?rv55) ?rh55 ?rg55 ?rq55 ?ry55 ?_
  case rh55 => rw [HOPS.out]; simp only [List.getElem?_toArray, List.getElem?_cons_succ, List.getElem?_cons_zero]; exact rfl
  case rg55 => rfl
  case rq55 => exact fun _ _ _ h => h
  case ry55 => intro w'; go_simp; try with_reducible rfl
  simp only [Act.put, List.setIfInBounds_toArray, List.set_cons_succ, List.set_cons_zero]
  refine wpSeq_read (o := ?ro56) (v := ?rv56) ?rh56 ?rg56 ?rq56 s2 ?ry56 ?_
  case rh56 => rw [HOPS.out]; simp only [List.getElem?_toArray, List.getElem?_cons_succ, List.getElem?_cons_zero]; exact rfl
  case rg56 => rfl
  case rq56 => exact fun _ _ _ h => h
  case ry56 => intro w' hs; obtain ⟨cc, ff⟩ := bcell hs; go_simp; try with_reducible rfl
  simp only [Act.put, List.setIfInBounds_toArray, List.set_cons_succ, List.set_cons_zero]
  refine wpSeq_pure (o := ?ro57) (v := ?rv57) ?rh57 ?rg57 ?rq57 ?ry57 ?_
  case rh57 => rw [HOPS.out]; simp only [List.getElem?_toArray, List.getElem?_cons_succ, List.getElem?_cons_zero]; exact rfl
  case rg57 => rfl
  case rq57 => exact fun _ _ _ h => h
  case ry57 => intro w'; go_simp; try with_reducible rfl
  simp only [Act.put, List.setIfInBounds_toArray, List.set_cons_succ, List.set_cons_zero]
  refine wpSeq_pure (o := ?ro58) (v := ?rv58) ?rh58 ?rg58 ?rq58 ?ry58 ?_
  case rh58 => rw [HOPS.out]; simp only [List.getElem?_toArray, List.getElem?_cons_succ, List.getElem?_cons_zero]; exact rfl
  case rg58 => rfl
  case rq58 => exact fun _ _ _ h => h
  case ry58 => intro w'; go_simp; try with_reducible rfl
  simp only [Act.put, List.setIfInBounds_toArray, List.set_cons_succ, List.set_cons_zero]
  refine wpSeq_nil ?_
  go_wp2
  go_ret
  exact ⟨A1, a1, rfl, K3.out, H2.out, grown_drew' HG2.out⟩


end Go.Proofs.Ytfdgflhbooaomaa
