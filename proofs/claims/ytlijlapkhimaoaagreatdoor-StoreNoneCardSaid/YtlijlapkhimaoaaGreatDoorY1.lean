/- The symbolic machine, 1: blocks that are known whole, and what one operation does to them. No program in sight. -/
import Derived.Test.YtlijlapkhimaoaaGreatDoorWords
import Derived.Test.YtlijlapkhimaoaaGreatDoorRg
namespace Go.Proofs.YtlijlapkhimaoaaGreatDoor
open Go.RowKit

/-- what neither reads nor writes -/
def pureRun {α : Type} (P : Program) : Sem α → Option α
  | .pure a => some a
  | .program k => pureRun P (k P)
  | .mark _ k => pureRun P k
  | _ => none

theorem pureRun_sound {α : Type} {P : Program} : ∀ (s : Sem α) {a : α}, pureRun P s = some a → ∀ w, s.run P w = .ok a w
  | .pure _, _, h, w => by simp [pureRun] at h; subst h; rfl
  | .program k, _, h, w => by unfold pureRun at h; unfold Sem.run; exact pureRun_sound (k P) h w
  | .mark _ k, _, h, w => by unfold pureRun at h; unfold Sem.run; exact pureRun_sound k h w
  | .load .., _, h, _ => by simp [pureRun] at h
  | .store .., _, h, _ => by simp [pureRun] at h
  | .new .., _, h, _ => by simp [pureRun] at h
  | .shape .., _, h, _ => by simp [pureRun] at h
  | .freeze .., _, h, _ => by simp [pureRun] at h
  | .frozen .., _, h, _ => by simp [pureRun] at h
  | .getObj .., _, h, _ => by simp [pureRun] at h
  | .setObj .., _, h, _ => by simp [pureRun] at h
  | .choose .., _, h, _ => by simp [pureRun] at h
  | .sys .., _, h, _ => by simp [pureRun] at h
  | .halt .., _, h, _ => by simp [pureRun] at h

/-- a block: its number, its elements' type, its cells -/
structure Bk where
  g : Nat
  t : TypeId
  cs : List Value

/-- the blocks H are there, whole, not frozen, no two of one number -/
def Has (H : List Bk) (w : World) : Prop := (∀ b ∈ H, Blk w b.g b.t b.cs.toArray) ∧ (H.map (·.g)).Nodup

/-- of a value that a cell can hold -/
def plainCell : Value → Bool
  | .agg _ => false
  | .tuple _ => false
  | _ => true

/-- what a load of type t from place off of these cells gives -/
def loadOf (P : Program) (t : TypeId) (cs : List Value) (off : Nat) : Option Value :=
  match P.underlying t with
  | some (.struct _) | some (.array _ _) =>
    match P.info? t with
    | some i => let l := (cs.drop off).take i.size; if l.length = i.size then some (.agg l.toArray) else none
    | none => none
  | some _ => cs[off]?
  | none => none

def overlay : List Value → Nat → List Value → List Value
  | cs, _, [] => cs
  | cs, off, v :: vs => overlay (cs.set off v) (off + 1) vs

def storeOf (P : Program) (t : TypeId) (cs : List Value) (off : Nat) (v : Value) : Option (List Value) :=
  match P.info? t with
  | some i => if v.cells.toList.length = i.size ∧ off + v.cells.toList.length ≤ cs.length ∧ v.cells.toList.all plainCell = true then some (overlay cs off v.cells.toList) else none
  | none => none

section
variable {P : Program} {w : World} {g : Nat} {t' : TypeId} {cs : List Value}

theorem addr_add (g off j : Nat) : (⟨g, off, none⟩ : Addr).add j = ⟨g, off + j, none⟩ := by
  unfold Addr.add; split
  · rename_i h; simp [h]
  · rfl

theorem run_load_cell (hb : Blk w g t' cs.toArray) {off : Nat} {v : Value} (h : cs[off]? = some v) {α : Type} (k : Value → Sem α) (m : Mode) : (Sem.load m ⟨g, off, none⟩ k).run P w = (k v).run P w := by
  have : w.cell? ⟨g, off, none⟩ = some v := by rw [hb.cell off]; simpa using h
  simp [Sem.run, this]

theorem run_loadCellsFrom (hb : Blk w g t' cs.toArray) {off : Nat} : ∀ (n i : Nat) (acc : Array Value), off + i + n ≤ cs.length → (loadCellsFrom ⟨g, off, none⟩ i n acc).run P w = .ok (acc ++ ((cs.drop (off + i)).take n).toArray) w
  | 0, i, acc, _ => by simp [loadCellsFrom, pure, Sem.run]
  | n + 1, i, acc, h => by
    have hl : off + i < cs.length := by omega
    have e : cs.drop (off + i) = cs[off + i] :: cs.drop (off + i + 1) := List.drop_eq_getElem_cons hl
    show (Sem.bind (load _) _).run P w = _
    unfold load
    simp only [Sem.bind]
    rw [addr_add, run_load_cell hb (v := cs[off + i]) (List.getElem?_eq_getElem hl)]
    have := run_loadCellsFrom (off := off) hb n (i + 1) (acc.push cs[off + i]) (by omega)
    rw [this, e, List.take_succ_cons, ← Nat.add_assoc]
    simp

theorem run_bind {α β : Type} : ∀ (s : Sem α) (f : α → Sem β) (w : World), (s.bind f).run P w = match s.run P w with | .ok a w' => (f a).run P w' | .halt h w' => .halt h w'
  | .pure a, f, w => rfl
  | .load m a k, f, w => by
    simp only [Sem.bind, Sem.run]
    cases w.cell? a with
    | some v => exact run_bind (k v) f w
    | none =>
      simp only
      cases w.farLoad P a (m == .atomic) with
      | ok r => exact run_bind (k r.1) f w
      | error h => rfl
  | .store m a v k, f, w => by
    cases v <;> simp only [Sem.bind, Sem.run] <;> (try rfl) <;>
    · cases w.cell? a with
      | some u =>
        simp only
        split
        · rfl
        · exact run_bind k f _
      | none =>
        simp only
        cases w.farStore P a _ (m == .atomic) with
        | ok r => exact run_bind k f r.1
        | error h => rfl
  | .new o k, f, w => by simp only [Sem.bind, Sem.run]; exact run_bind (k _) f _
  | .shape r k, f, w => by simp only [Sem.bind, Sem.run]; exact run_bind (k _) f _
  | .freeze a n k, f, w => by simp only [Sem.bind, Sem.run]; exact run_bind k f _
  | .frozen a k, f, w => by simp only [Sem.bind, Sem.run]; exact run_bind (k _) f _
  | .getObj r k, f, w => by
    simp only [Sem.bind, Sem.run]
    split <;> first | rfl | exact run_bind (k _) f _
  | .setObj r o k, f, w => by
    simp only [Sem.bind, Sem.run]
    split <;> first | rfl | exact run_bind k f _
  | .choose q k, f, w => by
    simp only [Sem.bind, Sem.run]
    split <;> exact run_bind (k _) f _
  | .sys c k, f, w => by simp only [Sem.bind, Sem.run]; exact run_bind (k _) f _
  | .program k, f, w => by simp only [Sem.bind, Sem.run]; exact run_bind (k P) f _
  | .mark m k, f, w => by simp only [Sem.bind, Sem.run]; exact run_bind k f _
  | .halt h, f, w => rfl

theorem run_underlying {t : TypeId} {d : TypeDesc} (h : P.underlying t = some d) : (underlying t).run P w = .ok d w := by
  show ((program).bind _).run P w = _
  simp [program, Sem.bind, Sem.run, h, pure]
theorem run_info {t : TypeId} {i : TypeInfo} (h : P.info? t = some i) : (typeInfo t).run P w = .ok i w := by
  show ((program).bind _).run P w = _
  simp [program, Sem.bind, Sem.run, h, pure]
theorem run_sizeOf {t : TypeId} {i : TypeInfo} (h : P.info? t = some i) : (sizeOf t).run P w = .ok i.size w := by
  show ((typeInfo t).bind _).run P w = _
  rw [run_bind, run_info h]
  rfl

theorem run_loadVar (hb : Blk w g t' cs.toArray) {t : TypeId} {off : Nat} {v : Value} (h : loadOf P t cs off = some v) : (loadVar t ⟨g, off, none⟩).run P w = .ok v w := by
  unfold loadOf at h
  show (Sem.bind (Sem.bind (underlying t) _) _).run P w = _
  rw [run_bind, run_bind]
  cases hu : P.underlying t with
  | none => rw [hu] at h; cases h
  | some d =>
    rw [run_underlying hu]
    rw [hu] at h
    have agg : (∀ i, P.info? t = some i → ((cs.drop off).take i.size).length = i.size → some (Value.agg ((cs.drop off).take i.size).toArray) = some v →
        (Sem.bind (sizeOf t) fun n => Sem.bind (loadCells ⟨g, off, none⟩ n) fun c => Sem.pure (Value.agg c)).run P w = .ok v w) := fun i hi hl hv => by
      rw [run_bind, run_sizeOf hi]
      show (Sem.bind (loadCells ⟨g, off, none⟩ i.size) _).run P w = _
      rw [run_bind]
      unfold loadCells
      by_cases h0 : i.size = 0
      · rw [h0] at hv ⊢
        simp at hv
        subst hv
        simp [loadCellsFrom, pure, Sem.run]
      · rw [run_loadCellsFrom hb (off := off) i.size 0 #[] (by simp at hl; omega)]
        simp at hv
        simp [Sem.run, ← hv]
    cases d <;> simp only at h ⊢
    case struct fs =>
      cases hi : P.info? t with
      | none => rw [hi] at h; cases h
      | some i =>
        rw [hi] at h
        simp only at h
        split at h
        · exact agg i hi ‹_› h
        · cases h
    case array n e =>
      cases hi : P.info? t with
      | none => rw [hi] at h; cases h
      | some i =>
        rw [hi] at h
        simp only at h
        split at h
        · exact agg i hi ‹_› h
        · cases h
    all_goals
      show (load _).run P w = _
      unfold load
      rw [run_load_cell hb h]
      rfl

theorem run_load_one {a : Addr} {v : Value} (h : w.cell? a = some v) {α : Type} (k : Value → Sem α) (m : Mode) : (Sem.load m a k).run P w = (k v).run P w := by
  simp [Sem.run, h]
theorem run_loadCellsFrom_cells (hb : ∀ j V, cs[j]? = some V → w.cell? ⟨g, j, none⟩ = some V) {off : Nat} : ∀ (n i : Nat) (acc : Array Value), off + i + n ≤ cs.length → (loadCellsFrom ⟨g, off, none⟩ i n acc).run P w = .ok (acc ++ ((cs.drop (off + i)).take n).toArray) w
  | 0, i, acc, _ => by simp [loadCellsFrom, pure, Sem.run]
  | n + 1, i, acc, h => by
    have hl : off + i < cs.length := by omega
    have e : cs.drop (off + i) = cs[off + i] :: cs.drop (off + i + 1) := List.drop_eq_getElem_cons hl
    show (Sem.bind (load _) _).run P w = _
    unfold load
    simp only [Sem.bind]
    rw [addr_add, run_load_one (hb _ _ (List.getElem?_eq_getElem hl))]
    have := run_loadCellsFrom_cells hb (off := off) n (i + 1) (acc.push cs[off + i]) (by omega)
    rw [this, e, List.take_succ_cons, ← Nat.add_assoc]
    simp
theorem run_loadVar_cells (hb : ∀ j V, cs[j]? = some V → w.cell? ⟨g, j, none⟩ = some V) {t : TypeId} {off : Nat} {v : Value} (h : loadOf P t cs off = some v) : (loadVar t ⟨g, off, none⟩).run P w = .ok v w := by
  unfold loadOf at h
  show (Sem.bind (Sem.bind (underlying t) _) _).run P w = _
  rw [run_bind, run_bind]
  cases hu : P.underlying t with
  | none => rw [hu] at h; cases h
  | some d =>
    rw [run_underlying hu]
    rw [hu] at h
    have agg : (∀ i, P.info? t = some i → ((cs.drop off).take i.size).length = i.size → some (Value.agg ((cs.drop off).take i.size).toArray) = some v →
        (Sem.bind (sizeOf t) fun n => Sem.bind (loadCells ⟨g, off, none⟩ n) fun c => Sem.pure (Value.agg c)).run P w = .ok v w) := fun i hi hl hv => by
      rw [run_bind, run_sizeOf hi]
      show (Sem.bind (loadCells ⟨g, off, none⟩ i.size) _).run P w = _
      rw [run_bind]
      unfold loadCells
      by_cases h0 : i.size = 0
      · rw [h0] at hv ⊢
        simp at hv
        subst hv
        simp [loadCellsFrom, pure, Sem.run]
      · rw [run_loadCellsFrom_cells hb (off := off) i.size 0 #[] (by simp at hl; omega)]
        simp at hv
        simp [Sem.run, ← hv]
    cases d <;> simp only at h ⊢
    case struct fs =>
      cases hi : P.info? t with
      | none => rw [hi] at h; cases h
      | some i =>
        rw [hi] at h
        simp only at h
        split at h
        · exact agg i hi ‹_› h
        · cases h
    case array n e =>
      cases hi : P.info? t with
      | none => rw [hi] at h; cases h
      | some i =>
        rw [hi] at h
        simp only at h
        split at h
        · exact agg i hi ‹_› h
        · cases h
    all_goals
      show (load _).run P w = _
      unfold load
      rw [run_load_one (hb _ _ h)]
      rfl

/-! ### stores -/
def putCells (w : World) (g : Nat) : Nat → List Value → World
  | _, [] => w
  | off, v :: vs => putCells (w.setCell ⟨g, off, none⟩ v) g (off + 1) vs

theorem run_store_cell (hb : Blk w g t' cs.toArray) {off : Nat} {v : Value} (hl : off < cs.length) (hv : plainCell v = true) {α : Type} (k : Sem α) (m : Mode) : (Sem.store m ⟨g, off, none⟩ v k).run P w = k.run P (w.setCell ⟨g, off, none⟩ v) := by
  have hc : w.cell? ⟨g, off, none⟩ = some cs[off] := by rw [hb.cell off]; simp [hl]
  have hf := hb.frozen off (by simpa using hl)
  cases v <;> first | (simp [plainCell] at hv; done) | simp [Sem.run, hc, hf]
end

section
variable {P : Program} {g : Nat} {t' : TypeId}
theorem run_storeCells : ∀ (vs : List Value) (i : Nat) (cs : List Value) (w : World) (off : Nat), Blk w g t' cs.toArray → off + i + vs.length ≤ cs.length → vs.all plainCell = true →
    (storeCells ⟨g, off, none⟩ vs i).run P w = .ok () (putCells w g (off + i) vs) ∧ Blk (putCells w g (off + i) vs) g t' (overlay cs (off + i) vs).toArray
  | [], i, cs, w, off, hb, _, _ => by simp [storeCells, pure, Sem.run, putCells, overlay, hb]
  | v :: vs, i, cs, w, off, hb, hl, hv => by
    simp only [List.all_cons, Bool.and_eq_true] at hv
    simp only [List.length_cons] at hl
    have hb' : Blk (w.setCell ⟨g, off + i, none⟩ v) g t' (cs.set (off + i) v).toArray := by
      have := hb.set_ (off + i) v
      simpa using this
    have ih := run_storeCells vs (i + 1) (cs.set (off + i) v) (w.setCell ⟨g, off + i, none⟩ v) off hb' (by simp; omega) hv.2
    unfold storeCells
    show ((store _ v).bind _).run P w = _ ∧ _
    unfold store
    simp only [Sem.bind]
    rw [addr_add, run_store_cell hb (by omega) hv.1]
    exact ih

theorem putCells_heap {k : Nat} (hk : k ≠ g) : ∀ (vs : List Value) (w : World) (off : Nat), (putCells w g off vs).heap[k]? = w.heap[k]?
  | [], _, _ => rfl
  | v :: vs, w, off => (putCells_heap hk vs _ (off + 1)).trans (Below.heap_setCell w _ v k hk)
theorem putCells_same : ∀ (vs : List Value) (w : World) (off : Nat), (putCells w g off vs).heap.size = w.heap.size ∧ (putCells w g off vs).os = w.os ∧ (putCells w g off vs).tape = w.tape ∧ (putCells w g off vs).output = w.output
  | [], _, _ => ⟨rfl, rfl, rfl, rfl⟩
  | v :: vs, w, off => by
    obtain ⟨h1, h2, h3, h4⟩ := putCells_same vs (w.setCell ⟨g, off, none⟩ v) (off + 1)
    exact ⟨h1.trans (by simp [World.setCell]), h2, h3, h4⟩

theorem run_storeVar {w : World} {cs cs' : List Value} (hb : Blk w g t' cs.toArray) {t : TypeId} {off : Nat} {v : Value} (h : storeOf P t cs off v = some cs') :
    (storeVar t ⟨g, off, none⟩ v).run P w = .ok () (putCells w g off v.cells.toList) ∧ Blk (putCells w g off v.cells.toList) g t' cs'.toArray := by
  unfold storeOf at h
  cases hi : P.info? t with
  | none => rw [hi] at h; cases h
  | some i =>
    rw [hi] at h
    simp only at h
    split at h
    · rename_i hc
      obtain ⟨h1, h2, h3⟩ := hc
      injection h with h
      subst h
      have := run_storeCells (P := P) v.cells.toList 0 cs w off hb (by omega) h3
      refine ⟨?_, this.2⟩
      show (Sem.bind (sizeOf t) _).run P w = _
      rw [run_bind, run_sizeOf hi]
      have e : ¬ (v.cells.size ≠ i.size) := by simpa using h1
      simp only [e, if_false]
      exact this.1
    · cases h

/-- what makes one new thing and does nothing else -/
def newRun {α : Type} (P : Program) : Sem α → Option (Obj × (Nat → Option α))
  | .new o k => some (o, fun g => pureRun P (k g))
  | .program k => newRun P (k P)
  | .mark _ k => newRun P k
  | _ => none

theorem newRun_sound {α : Type} {P : Program} : ∀ (s : Sem α) {o : Obj} {k : Nat → Option α} {v : α} {w : World}, newRun P s = some (o, k) → k w.heap.size = some v → s.run P w = .ok v (w.alloc o)
  | .new o k, _, _, _, w, h, hv => by
    simp only [newRun, Option.some.injEq, Prod.mk.injEq] at h
    obtain ⟨rfl, rfl⟩ := h
    exact pureRun_sound _ hv _
  | .program k, _, _, _, w, h, hv => by unfold newRun at h; unfold Sem.run; exact newRun_sound (k P) h hv
  | .mark _ k, _, _, _, w, h, hv => by unfold newRun at h; unfold Sem.run; exact newRun_sound k h hv
  | .pure .., _, _, _, _, h, _ => by simp [newRun] at h
  | .load .., _, _, _, _, h, _ => by simp [newRun] at h
  | .store .., _, _, _, _, h, _ => by simp [newRun] at h
  | .shape .., _, _, _, _, h, _ => by simp [newRun] at h
  | .freeze .., _, _, _, _, h, _ => by simp [newRun] at h
  | .frozen .., _, _, _, _, h, _ => by simp [newRun] at h
  | .getObj .., _, _, _, _, h, _ => by simp [newRun] at h
  | .setObj .., _, _, _, _, h, _ => by simp [newRun] at h
  | .choose .., _, _, _, _, h, _ => by simp [newRun] at h
  | .sys .., _, _, _, _, h, _ => by simp [newRun] at h
  | .halt .., _, _, _, _, h, _ => by simp [newRun] at h
end

/-! ### what has tests over data in it -/
section
variable {P : Program} {w : World}

/-- are two structs the same? -/
def eqFields (P : Program) (E : TypeId → Value → Value → Option Bool) (xs ys : Array Value) : List Field → Option Bool
  | [] => some true
  | f :: fs =>
    if f.name ≠ "_" then
      match pureRun P (part f.type xs f.offset), pureRun P (part f.type ys f.offset) with
      | some x, some y =>
        match E f.type x y, eqFields P E xs ys fs with
        | some p, some q => some (p && q)
        | _, _ => none
      | _, _ => none
    else eqFields P E xs ys fs

def eqT (P : Program) : Nat → Nat → TypeId → Value → Value → Option Bool
  | n + 1, d + 1, t, x, y =>
    match P.underlying t, x, y with
    | some (.struct fields), .agg xs, .agg ys => match P.stoodInHeld t with
      | true => none
      | false => eqFields P (eqT P n d) xs ys fields.toList
    | _, _, _ => pureRun P (Op.equalIn (d + 1) t x y)
  | _, _, _, _, _ => none

theorem eqFields_sound {d : Nat} {E : TypeId → Value → Value → Option Bool} (hE : ∀ t x y b, E t x y = some b → (Op.equalIn d t x y).run P w = .ok b w) {xs ys : Array Value} : ∀ (fs : List Field) {b : Bool}, eqFields P E xs ys fs = some b →
    (forIn fs ((none : Option Bool), ()) fun f __s => if f.name ≠ "_" then
        (part f.type xs f.offset).bind fun x => (part f.type ys f.offset).bind fun y => (Op.equalIn d f.type x y).bind fun b =>
          if (!b) = true then (pure (ForInStep.done (some false, ())) : Sem _) else pure (ForInStep.yield (none, ()))
      else pure (ForInStep.yield (none, ()))).run P w = .ok (if b then (none, ()) else (some false, ())) w
  | [], b, h => by
    simp only [eqFields, Option.some.injEq] at h
    subst h
    rfl
  | f :: fs, b, h => by
    unfold eqFields at h
    rw [List.forIn_cons]
    show (Sem.bind _ _).run P w = _
    rw [run_bind]
    by_cases hn : f.name ≠ "_"
    · rw [if_pos hn] at h ⊢
      split at h
      · rename_i x y hx hy
        split at h
        · rename_i p q hp hq
          injection h with h
          subst h
          rw [run_bind, pureRun_sound _ hx w]
          simp only []
          rw [run_bind, pureRun_sound _ hy w]
          simp only []
          rw [run_bind, hE _ _ _ _ hp]
          simp only []
          cases p with
          | false => rfl
          | true => exact eqFields_sound hE fs hq
        · cases h
      · cases h
    · rw [if_neg hn] at h ⊢
      exact eqFields_sound hE fs h

theorem eqT_sound : ∀ (n d : Nat) (t : TypeId) (x y : Value) (b : Bool), eqT P n d t x y = some b → (Op.equalIn d t x y).run P w = .ok b w
  | 0, _, _, _, _, _, h => by simp [eqT] at h
  | _ + 1, 0, _, _, _, _, h => by simp [eqT] at h
  | n + 1, d + 1, t, x, y, b, h => by
    unfold eqT at h
    split at h
    · rename_i fields xs ys hu
      split at h
      · cases h
      · rename_i hs
        rw [Op.equalIn]
        show (Sem.bind (underlying t) _).run P w = _
        rw [run_bind, run_underlying hu]
        simp only [program, bind, Sem.bind, Sem.run, hs]
        have := eqFields_sound (P := P) (w := w) (d := d) (fun t x y b => eqT_sound n d t x y b) fields.toList h
        rw [if_neg (by simp), run_bind]
        rw [← Array.forIn_toList, this]
        cases b <;> rfl
    · exact pureRun_sound _ h w

def pickV (c : Bool) (x y : Value) : Value :=
  match x, y with
  | .bool a, .bool b => .bool (match c with | true => a | false => b)
  | .int k a, .int k' b => if k = k' then .int k (match c with | true => a | false => b) else (if c then .int k a else .int k' b)
  | x, y => if c then x else y
theorem pickV_eq (c : Bool) (x y : Value) : pickV c x y = if c then x else y := by
  unfold pickV
  split
  · cases c <;> rfl
  · split
    · rename_i h
      subst h
      cases c <;> rfl
    · rfl
  · rfl

def AllP : List Prop → Prop
  | [] => True
  | p :: l => p ∧ AllP l
theorem AllP.append : ∀ {l m : List Prop}, AllP (l ++ m) ↔ AllP l ∧ AllP m
  | [], m => by simp [AllP]
  | p :: l, m => by
    have := AllP.append (l := l) (m := m)
    simp only [List.cons_append, AllP, this, and_assoc]

/-- operations with tests over data in them; what must hold for them to go well -/
def special (P : Program) (ρ : Operand → Value) : Op → Option (Value × List Prop)
  | .pick c x y => match ρ c with
    | .bool b => some (pickV b (ρ x) (ρ y), [])
    | _ => none
  | .binOp op t x y _ =>
    match ρ x, ρ y with
    | .agg xs, .agg ys =>
      match P.eqGuardType P.depth t with
      | true => none
      | false =>
        match op with
        | .eql => (eqT P 9 Op.maxDepth t (.agg xs) (.agg ys)).map fun b => (.bool b, [])
        | .neq => (eqT P 9 Op.maxDepth t (.agg xs) (.agg ys)).map fun b => (.bool !b, [])
        | _ => none
    | _, _ => none
  | .indexAddr t x ix =>
    match P.underlying t, ρ x, ρ ix with
    | some (.slice e), .slice (some ad) n _, .int _ i =>
      match P.info? e with
      | some inf => some (.pointer (some (ad.add (i.toNat * inf.size))), [0 ≤ i, i < n])
      | none => none
    | _, _, _ => none
  | _ => none

theorem run_indexAt {t e : TypeId} {ad : Addr} {n m : Nat} {k : IntKind} {i : Int} {inf : TypeInfo} (hu : P.underlying t = some (.slice e)) (hi : P.info? e = some inf) (h0 : 0 ≤ i) (h1 : i < n) :
    (Instr.indexAt t (.slice (some ad) n m) (.int k i)).run P w = .ok (.pointer (some (ad.add (i.toNat * inf.size)))) w := by
  unfold Instr.indexAt
  simp only [asIntOf, bind, pure, Sem.bind]
  rw [run_bind, run_underlying hu]
  simp only [Sem.bind]
  rw [run_bind, run_underlying hu]
  simp only [h0, h1, and_self, if_true]
  rw [run_bind, run_sizeOf hi]
  rfl

theorem special_sound {ρ : Operand → Value} {o : Oper} {v : Value} {ps : List Prop} (h : special P ρ o.op = some (v, ps)) (hp : AllP ps) : (execOp ρ o).run P w = .ok (.value v) w := by
  unfold special at h
  split at h
  · rename_i c x y hop
    split at h
    · rename_i b hc
      simp only [Option.some.injEq, Prod.mk.injEq] at h
      obtain ⟨rfl, _⟩ := h
      unfold execOp
      rw [hop, pickV_eq]
      show ((asBool (ρ c)).bind _).run P w = _
      rw [hc]
      rfl
    · cases h
  · rename_i op t x y t2 hop
    split at h
    · rename_i xs ys hx hy
      split at h
      · cases h
      · rename_i hg
        have guard_ : ∀ op, (eqGuard op t x y (.agg xs) (.agg ys)).run P w = .ok () w := fun op => by
          unfold eqGuard
          cases op <;> simp [program, bind, Sem.bind, Sem.run, pure, hg]
        unfold execOp
        rw [hop]
        simp only [hx, hy]
        show (Sem.bind (Sem.bind (eqGuard op t x y (.agg xs) (.agg ys)) _) _).run P w = _
        rw [run_bind, run_bind, guard_]
        simp only []
        split at h
        · rw [Option.map_eq_some_iff] at h
          obtain ⟨b, hb, he⟩ := h
          injection he with he _
          subst he
          have h1 := eqT_sound (P := P) (w := w) _ _ _ _ _ _ hb
          have h2 : (binOp .eql t (.agg xs) (.agg ys)).run P w = .ok (.bool b) w := by
            show (Sem.bind (Op.equalIn Op.maxDepth t _ _) fun b => Sem.pure (Value.bool b)).run P w = _
            rw [run_bind, h1]
            rfl
          rw [h2]
          rfl
        · rw [Option.map_eq_some_iff] at h
          obtain ⟨b, hb, he⟩ := h
          injection he with he _
          subst he
          have h1 := eqT_sound (P := P) (w := w) _ _ _ _ _ _ hb
          have h2 : (binOp .neq t (.agg xs) (.agg ys)).run P w = .ok (.bool !b) w := by
            show (Sem.bind (Op.equalIn Op.maxDepth t _ _) fun b => Sem.pure (Value.bool !b)).run P w = _
            rw [run_bind, h1]
            rfl
          rw [h2]
          rfl
        · cases h
    · cases h
  · rename_i t x ix hop
    split at h
    · rename_i e ad n m k i hu hx hix
      split at h
      · rename_i inf hinf
        simp only [Option.some.injEq, Prod.mk.injEq] at h
        obtain ⟨rfl, rfl⟩ := h
        obtain ⟨h0, h1, _⟩ := hp
        unfold execOp
        rw [hop]
        show (Sem.bind (Instr.indexAt t (ρ x) (ρ ix)) _).run P w = _
        rw [hx, hix, run_bind, run_indexAt hu hinf h0 h1]
        rfl
      · cases h
    · cases h
  · cases h
end

end Go.Proofs.YtlijlapkhimaoaaGreatDoor
