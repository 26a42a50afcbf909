/- The evaluator, 9: operations that look at nothing but their operands; that read. No program in sight. -/
import Derived.Test.YtlijlapkhimaoaaGreatDoorE8
namespace Go.Proofs.YtlijlapkhimaoaaGreatDoor
open Go Go.RowKit

theorem lastL_eq : ∀ l : List Nat, lastL l = l.getLast?
  | [] => rfl
  | [x] => rfl
  | x :: y :: l => by
    show lastL (y :: l) = _
    rw [lastL_eq (y :: l)]
    simp [List.getLast?_cons_cons]

section
variable {P : Program} {w0 w : World} {A : Anch} {ν : Nm} {s : St}

/-- all steps that a walk may do -/
theorem nextA_rel (h : WRel P w0 A ν s w) {it : AV} {IT : Value} {l : List (AV × St)} (hn : nextA s it = some l) (hi : den ν it = some IT) (ty : TypeId) : ∃ p ∈ l, OpOk P w0 A ν p.2 p.1 ((Instr.next IT false ty).run P w) := by
  unfold nextA at hn
  split at hn
  · rename_i i
    obtain ⟨g, hg, rfl⟩ := ptr_den hi
    split at hn
    · rename_i since seen stepped hit
      obtain ⟨m', sn, ho, hm, _⟩ := h.iter_ hit hg
      simp only [optN] at hm
      subst hm
      injection hn with hn
      subst hn
      refine ⟨_, List.mem_singleton.2 rfl, ν, .tuple #[.bool false], w, Nm.le.refl _, h, rfl, ?_⟩
      unfold Instr.next
      simp only [bind]
      rw [run_bind, run_getObj ho (by simp)]
      rfl
    · rename_i m since seen stepped hit
      obtain ⟨m', sn, ho, hm, hsn⟩ := h.iter_ hit hg
      obtain ⟨gm, hgm, rfl⟩ := hm
      split at hn
      · rename_i es clock hmap
        obtain ⟨arr, hom, harr⟩ := h.map_ hmap hgm
        split at hn
        · cases hn
        · rename_i hc
          simp only [Bool.and_eq_true] at hc
          have hcl := Nat.eq_of_beq_eq_true hc.1
          subst hcl
          have hborn : ∀ x ∈ arr.toList, x.born < clock := fun x hx => by
            have : (arr.toList.all fun m => Nat.ble (m.born + 1) clock) = true := by
              rw [← All2.all (p := fun e : AV × AV × Nat => Nat.ble (e.2.2 + 1) clock) (fun a b hab => by rw [hab.2.2]) harr]
              exact hc.2
            have := List.all_eq_true.1 this x hx
            exact Nat.le_of_ble_eq_true this
          have hcond : (!sn.isEmpty && !arr.isEmpty && arr.all fun x => decide (x.born ≥ clock)) = false := by
            cases hL : arr.toList with
            | nil =>
              have : arr.isEmpty = true := by simpa using hL
              simp [this]
            | cons x L =>
              have hx := hborn x (by rw [hL]; simp)
              have : (arr.all fun x => decide (x.born ≥ clock)) = false := by
                rw [← Array.all_toList, hL, List.all_cons]
                have : decide (x.born ≥ clock) = false := by simp; omega
                rw [this]
                rfl
              simp [this]
          have hleft := All2.filter (p := fun e : AV × AV × Nat => !seen.any (Nat.beq e.2.2)) (q := fun e : MapEntry => !sn.contains e.born) (fun a b hab => by
            rw [any_beq, hab.2.2, ← hsn, List.contains_eq_mem]; simp [Array.contains_eq_mem]) harr
          have run0 : (Instr.next (.pointer (some ⟨g, 0, none⟩)) false ty).run P w = (Sem.run P (do
              let left := arr.filter fun e : MapEntry => !sn.contains e.born
              let old := left.filter fun e : MapEntry => decide (e.born < since)
              let new := left.filter fun e : MapEntry => decide (e.born ≥ since)
              let candidates := (if old.isEmpty then #[none] else #[]) ++ (old ++ new).map some
              match candidates[← choose (.mapNext candidates.size)]? with
              | some (some e) =>
                setObj g (.mapIter (some gm) since (sn.push e.born) clock)
                pure (.tuple #[.bool true, e.key, e.val])
              | some none => pure (.tuple #[.bool false])
              | none => stuck "Next: no such candidate") w) := by
            unfold Instr.next
            simp only [bind]
            rw [run_bind, run_getObj ho (by simp)]
            simp only []
            rw [run_bind, run_getObj hom (by simp)]
            simp only [hcond]
            rfl
          rw [run0]
          clear run0
          obtain ⟨L, hL⟩ : ∃ L, L = arr.filter fun e : MapEntry => !sn.contains e.born := ⟨_, rfl⟩
          have hleft' : All2 (ERel ν) (es.filter fun e : AV × AV × Nat => !seen.any (Nat.beq e.2.2)) L.toList := by
            rw [hL, Array.toList_filter]
            exact hleft
          rw [← hL]
          simp only at hn
          split at hn
          · rename_i hnil
            rw [hnil] at hleft'
            have : L = #[] := by
              cases hLL : L.toList with
              | nil => exact Array.toList_eq_nil_iff.1 hLL
              | cons x y => rw [hLL] at hleft'; exact hleft'.elim
            subst this
            injection hn with hn
            subst hn
            refine ⟨_, List.mem_singleton.2 rfl, ν, .tuple #[.bool false], w, Nm.le.refl _, h.kill _, rfl, ?_⟩
            simp [choose, Sem.run, Question.forced]
          · rename_i hne
            split at hn
            · rename_i hold
              injection hn with hn
              subst hn
              have holdL : ∀ x ∈ L.toList, x.born < since := fun x hx => by
                have : (L.toList.all fun m => Nat.ble (m.born + 1) since) = true := by
                  rw [← All2.all (p := fun e : AV × AV × Nat => Nat.ble (e.2.2 + 1) since) (fun a b hab => by rw [hab.2.2]) hleft']
                  exact hold
                exact Nat.le_of_ble_eq_true (List.all_eq_true.1 this x hx)
              have f1 : (L.filter fun e : MapEntry => decide (e.born < since)) = L := by
                rw [Array.filter_eq_self]
                intro a ha
                simpa using holdL a (by simpa using ha)
              have f2 : (L.filter fun e : MapEntry => decide (e.born ≥ since)) = #[] := by
                rw [Array.filter_eq_empty_iff]
                intro a ha
                have := holdL a (by simpa using ha)
                simp
                omega
              have hlen := hleft'.length
              have hpos : 0 < L.size := by
                rcases Nat.eq_zero_or_pos L.size with h0 | h0
                · exfalso
                  have : (es.filter fun e : AV × AV × Nat => !seen.any (Nat.beq e.2.2)) = [] := List.eq_nil_of_length_eq_zero (by rw [hlen]; simpa using h0)
                  exact hne this
                · exact h0
              have hemp : L.isEmpty = false := by
                rw [Array.isEmpty_eq_false_iff_exists_mem]
                exact ⟨L[0], Array.getElem_mem hpos⟩
              have goal_ : ∀ (w1 : World), WRel P w0 A ν s w1 → w1.heap = w.heap → ∀ j, j < L.size → ∃ p ∈ ((es.filter fun e : AV × AV × Nat => !seen.any (Nat.beq e.2.2)).map fun e => (AV.tup [.bool true, e.1, e.2.1], setO s i (.iter (some m) since (seen ++ [e.2.2]) clock))),
                  OpOk P w0 A ν p.2 p.1 ((match (L.map some)[j]? with
                  | some (some e) => (setObj g (.mapIter (some gm) since (sn.push e.born) clock)).bind fun _ => pure (.tuple #[.bool true, e.key, e.val])
                  | some none => pure (.tuple #[.bool false])
                  | none => stuck "Next: no such candidate" : Sem Value).run P w1) := fun w1 h1 hw1 j hj => by
                obtain ⟨e, he, hrel⟩ := All2.get hleft' (i := j) (b := L[j]) (by simp [hj])
                refine ⟨_, List.mem_map.2 ⟨e, List.mem_of_getElem? he, rfl⟩, ν, .tuple #[.bool true, L[j].key, L[j].val], _, Nm.le.refl _, h1.putObj hit hg (o := .iter (some m) since (seen ++ [e.2.2]) clock) (obj := .mapIter (some gm) since (sn.push L[j].born) clock) ⟨⟨gm, hgm, rfl⟩, rfl, by rw [Array.toList_push, hsn, hrel.2.2], rfl⟩, ?_, ?_⟩
                · simp [den, denL, hrel.1, hrel.2.1]
                · have : (L.map some)[j]? = some (some L[j]) := by simp [hj]
                  rw [this]
                  simp only []
                  rw [run_bind, run_setObj _ (by rw [hw1]; exact ho) (by simp)]
                  rfl
              simp only [f1, f2, hemp, Bool.false_eq_true, if_false, Array.append_empty, Array.empty_append, Array.size_map, bind]
              rw [run_bind]
              unfold choose
              simp only [Sem.run]
              by_cases hf : Question.forced (.mapNext L.size) = true
              · rw [if_pos hf]
                simp only [Sem.run]
                exact goal_ w h rfl 0 hpos
              · rw [if_neg hf]
                simp only [Sem.run]
                exact goal_ _ h.drew rfl _ (Nat.mod_lt _ hpos)
            · cases hn
      · cases hn
    · cases hn
  · cases hn

theorem findBorn_rel {b : Nat} {k v : AV} : ∀ {es : List (AV × AV × Nat)} {ES : List MapEntry}, All2 (ERel ν) es ES → findBorn b es = some (k, v) → ∃ m, ES.find? (fun e => e.born == b) = some m ∧ den ν k = some m.key ∧ den ν v = some m.val
  | [], _, _, h => by simp [findBorn] at h
  | (k', v', b') :: es, [], hp, _ => hp.elim
  | (k', v', b') :: es, m :: ES, hp, h => by
    simp only [findBorn] at h
    have hb : b' = m.born := hp.1.2.2
    split at h
    · rename_i hq
      have hq := Nat.eq_of_beq_eq_true hq
      simp only [Option.some.injEq, Prod.mk.injEq] at h
      obtain ⟨rfl, rfl⟩ := h
      refine ⟨m, ?_, hp.1.1, hp.1.2.1⟩
      rw [List.find?_cons]
      have : (m.born == b) = true := by rw [← hb, hq]; simp
      rw [this]
    · rename_i hq
      have hq := Nat.ne_of_beq_eq_false hq
      obtain ⟨m', h1, h2⟩ := findBorn_rel hp.2 h
      refine ⟨m', ?_, h2⟩
      rw [List.find?_cons]
      have : (m.born == b) = false := by rw [← hb]; simpa using hq
      rw [this]
      exact h1
theorem entryAt_rel (h : WRel P w0 A ν s w) {it v : AV} {IT : Value} (hn : entryAt s it = some v) (hi : den ν it = some IT) : ∃ V, den ν v = some V ∧ (Instr.entry IT).run P w = .ok V w := by
  unfold entryAt at hn
  split at hn
  · rename_i i
    obtain ⟨g, hg, rfl⟩ := ptr_den hi
    split at hn
    · rename_i m since seen stepped hit
      obtain ⟨m', sn, ho, hm, hsn⟩ := h.iter_ hit hg
      obtain ⟨gm, hgm, rfl⟩ := hm
      split at hn
      · rename_i b es clock hb hmap
        obtain ⟨arr, hom, harr⟩ := h.map_ hmap hgm
        split at hn
        · rename_i hc
          have hc := Nat.eq_of_beq_eq_true hc
          subst hc
          rw [Option.map_eq_some_iff] at hn
          obtain ⟨⟨k, v'⟩, hf, rfl⟩ := hn
          obtain ⟨me, h1, h2, h3⟩ := findBorn_rel harr hf
          refine ⟨.tuple #[me.key, me.val], by simp [den, denL, h2, h3], ?_⟩
          have hback : sn.back? = some b := by
            rw [lastL_eq, ← hsn, Array.getLast?_toList] at hb
            exact hb
          have hfind : arr.find? (fun e => e.born == b) = some me := by rw [← Array.find?_toList]; exact h1
          unfold Instr.entry
          simp only [bind]
          rw [run_bind, run_getObj ho (by simp)]
          simp only [hback]
          rw [run_bind, run_getObj hom (by simp)]
          simp only [bne_self_eq_false, Bool.false_eq_true, if_false, hfind]
          rfl
        · cases hn
      · cases hn
    · cases hn
  · cases hn
end

end Go.Proofs.YtlijlapkhimaoaaGreatDoor
