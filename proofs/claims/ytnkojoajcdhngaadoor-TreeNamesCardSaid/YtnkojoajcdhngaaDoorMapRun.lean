/- Maps that lie in one block with entries that are known: an insertion, a look-up, a range, run. -/
import Derived.Test.YtnkojoajcdhngaaDoorMem
import Derived.MapKept
import Derived.RangeFuncRecord
import Derived.Maps.RangeRun
namespace Go.Proofs.YtnkojoajcdhngaaDoor
set_option linter.unusedVariables false
set_option linter.unusedSimpArgs false
set_option maxRecDepth 100000
open Go.RowKit Go.MapKept

theorem putObj_alloc (w : World) (o o' : Obj) : (w.alloc o).putObj w.heap.size o' = w.alloc o' := by
  have : (w.heap.push o).setIfInBounds w.heap.size o' = w.heap.push o' := by
    apply Array.ext_getElem?
    intro k
    by_cases h : k = w.heap.size
    · subst h; simp
    · rw [Array.getElem?_setIfInBounds_ne (Ne.symm h)]
      simp [Array.getElem?_push, h]
  show { w.alloc o with heap := (w.heap.push o).setIfInBounds w.heap.size o' } = w.alloc o'
  rw [this]
  rfl
theorem run_set_map {P : Program} {w : World} {r c : Nat} {es : Array MapEntry} (h : w.heap[r]? = some (.map es c)) (o : Obj) : (setObj r o).run P w = .ok () (w.putObj r o) := by simp [setObj, Sem.run, h, World.putObj]
theorem ba_beq (a b : ByteArray) : (a == b) = decide (a = b) := by
  rw [Bool.eq_iff_iff, bytes_beq]
  simp

section
variable {P : Program} {w : World} {T K E : TypeId} {d : TypeDesc} {es : Array MapEntry} {key : Value}
/-- An insertion of a key that is new into the map that was made last. -/
theorem run_insert_new (hT : P.underlying T = some (.map K E)) (hK : P.underlying K = some d) (hk : IsKey d key) (c : Nat) (val : Value) (hf : Instr.findNow d key es.toList 0 = some none) :
    (Instr.mapUpdate T (.map (some w.heap.size)) key val).run P (w.alloc (.map es c)) = .ok () (w.alloc (.map (es.push { key, val, born := c }) (c + 1))) := by
  have hb : (w.alloc (.map es c)).heap[w.heap.size]? = some (.map es c) := World.alloc_heap_new _ _
  unfold Instr.mapUpdate
  simp only [Sem.run_bind, run_underlying hT, Result.andThen, getObj, Sem.run, hb, run_checkKey hK hk, run_findKey hK hf, run_set_map hb]
  rw [putObj_alloc]
/-- A look-up. -/
theorem run_lookup_now (hT : P.underlying T = some (.map K E)) (hK : P.underlying K = some d) (hk : IsKey d key) {b c : Nat} {r : Option (Nat × Value)} {z : Value} (hb : w.heap[b]? = some (.map es c)) (hf : Instr.findNow d key es.toList 0 = some r)
    (hz : (zeroValue E).run P w = .ok z w) (ok : Bool) :
    (Instr.lookup T (.map (some b)) key ok).run P w = .ok (if ok then .tuple #[(r.map (·.2)).getD z, .bool r.isSome] else (r.map (·.2)).getD z) w := by
  unfold Instr.lookup
  cases r with
  | none =>
    simp only [Sem.run_bind, run_underlying hT, Result.andThen, getObj, Sem.run, hb, run_checkKey hK hk, run_findKey hK hf, hz, Sem.run_pure]
    cases ok <;> rfl
  | some p =>
    simp only [Sem.run_bind, run_underlying hT, Result.andThen, getObj, Sem.run, hb, run_checkKey hK hk, run_findKey hK hf, Sem.run_pure]
    cases ok <;> rfl
end

/-- Entries, one behind the other. -/
def ents : Nat → List (Value × Value) → List MapEntry
  | _, [] => []
  | i, p :: t => { key := p.1, val := p.2, born := i } :: ents (i + 1) t
theorem ents_born : ∀ (i : Nat) (l : List (Value × Value)), ∀ x ∈ ents i l, i ≤ x.born ∧ x.born < i + l.length
  | _, [], x, h => by cases h
  | i, p :: t, x, h => by
    simp only [ents, List.mem_cons] at h
    rcases h with rfl | h
    · simp
    · have := ents_born (i + 1) t x h
      simp only [List.length_cons]
      omega
theorem ents_nodup : ∀ (i : Nat) (l : List (Value × Value)), ((ents i l).map (·.born)).Nodup
  | _, [] => List.nodup_nil
  | i, p :: t => by
    simp only [ents, List.map_cons, List.nodup_cons]
    refine ⟨fun h => ?_, ents_nodup (i + 1) t⟩
    obtain ⟨x, hx, e⟩ := List.mem_map.1 h
    have := ents_born (i + 1) t x hx
    omega
theorem ents_mem : ∀ (i : Nat) (l : List (Value × Value)) (x : MapEntry), x ∈ ents i l → (x.key, x.val) ∈ l
  | _, [], x, h => by cases h
  | i, p :: t, x, h => by
    simp only [ents, List.mem_cons] at h
    rcases h with rfl | h
    · exact List.mem_cons_self
    · exact List.mem_cons_of_mem _ (ents_mem (i + 1) t x h)
theorem ents_has : ∀ (i : Nat) (l : List (Value × Value)) (p : Value × Value), p ∈ l → ∃ x ∈ ents i l, x.key = p.1 ∧ x.val = p.2
  | _, [], p, h => by cases h
  | i, q :: t, p, h => by
    rcases List.mem_cons.1 h with rfl | h
    · exact ⟨_, List.mem_cons_self, rfl, rfl⟩
    · obtain ⟨x, hx, e⟩ := ents_has (i + 1) t p h
      exact ⟨x, List.mem_cons_of_mem _ hx, e⟩
/-- Which entry a key of a string's kind has. -/
theorem find_str (s : ByteArray) : ∀ (L : List (ByteArray × Value)) (i j : Nat), ∃ r, Instr.findNow .string (.string s) (ents i (L.map fun p => (.string p.1, p.2))) j = some r ∧ r.map (·.2) = (L.find? fun p => p.1 == s).map (·.2)
  | [], _, _ => ⟨none, rfl, rfl⟩
  | p :: t, i, j => by
    simp only [List.map_cons, ents, Instr.findNow, Instr.sameNow, List.find?_cons]
    by_cases h : s = p.1
    · subst h
      exact ⟨some (j, p.2), by simp [ba_beq], by simp [ba_beq]⟩
    · have h1 : (s == p.1) = false := by rw [ba_beq]; exact decide_eq_false h
      have h2 : (p.1 == s) = false := by rw [ba_beq]; exact decide_eq_false (Ne.symm h)
      simp only [h1, h2]
      exact find_str s t (i + 1) (j + 1)
theorem find_int (k : IntKind) (a : Int) : ∀ (L : List (Int × Value)) (i j : Nat), ∃ r, Instr.findNow (.int k) (.int k a) (ents i (L.map fun p => (.int k p.1, p.2))) j = some r ∧ r.map (·.2) = (L.find? fun p => p.1 == a).map (·.2)
  | [], _, _ => ⟨none, rfl, rfl⟩
  | p :: t, i, j => by
    simp only [List.map_cons, ents, Instr.findNow, Instr.sameNow, List.find?_cons, if_true]
    by_cases h : a = p.1
    · subst h
      exact ⟨some (j, p.2), by simp, by simp⟩
    · have h1 : (a == p.1) = false := by simpa using h
      have h2 : (p.1 == a) = false := by simpa using Ne.symm h
      simp only [h1, h2]
      exact find_int k a t (i + 1) (j + 1)

section
variable {P : Program}
theorem setBlock_heap (w : World) (r : Nat) (o : Obj) (h : r < w.heap.size) : (ChangeMaps.setBlock w r o).heap[r]? = some o ∧ (ChangeMaps.setBlock w r o).heap.size = w.heap.size ∧ (∀ k, k ≠ r → (ChangeMaps.setBlock w r o).heap[k]? = w.heap[k]?) ∧ ∀ B, B ≤ r → Below B w (ChangeMaps.setBlock w r o) := by
  have h1 : ∀ k, k ≠ r → (ChangeMaps.setBlock w r o).heap[k]? = w.heap[k]? := fun k hk => by
    simp only [ChangeMaps.setBlock]
    rw [Array.getElem?_setIfInBounds_ne (Ne.symm hk)]
  have h2 : (ChangeMaps.setBlock w r o).heap.size = w.heap.size := by simp [ChangeMaps.setBlock]
  exact ⟨by simp [ChangeMaps.setBlock, h], h2, h1, fun B hB => ⟨rfl, rfl, rfl, by rw [h2]; exact Nat.le_refl _, fun k hk => h1 k (by omega)⟩⟩
/-- The step of a range over a map whose entries are known: nothing is left, or one that is left comes. -/
theorem wpList_next_now (w : World) {ops : Array Oper} {rest : List Oper} {o : Oper} {a : Act} {Q : Exit → Act → World → Prop} (hg : o.guard = none) (it : Operand) (hop : o.op = Op.next it false)
    (r bm since c0 : Nat) (seen : Array Nat) (es : Array MapEntry) (clock : Nat) (hit : a.eval it = .pointer (some ⟨r, 0, none⟩)) (hr : w.heap[r]? = some (.mapIter (some bm) since seen c0)) (hb : w.heap[bm]? = some (.map es clock))
    (hold : ∀ x ∈ es.toList, x.born < since) (hsc : since ≤ c0) (hn : (es.toList.map (·.born)).Nodup)
    (hDone : (leftOf es seen).size = 0 → wpList P ops Q rest (a.put o.dst (.tuple #[.bool false])) w)
    (hMore : ∀ e ∈ (leftOf es seen).toList, ∀ w2 : World, w2.heap[r]? = some (.mapIter (some bm) since (seen.push e.born) clock) → w2.heap.size = w.heap.size → (∀ k, k ≠ r → w2.heap[k]? = w.heap[k]?) → (∀ B, B ≤ r → Below B w w2) →
      (Instr.entry (.pointer (some ⟨r, 0, none⟩))).run P w2 = .ok (.tuple #[e.key, e.val]) w2 → wpList P ops Q rest (a.put o.dst (.tuple #[.bool true, e.key, e.val])) w2) :
    wpList P ops Q (o :: rest) a w := by
  refine wpList_plain hg fun K' hK' => ?_
  unfold Oper.wp
  rcases run_next_at (P := P) w o.type r bm since c0 seen es clock hr hb hold hsc with ⟨h0, hrun⟩ | ⟨e, he, w1, hw1, hrun⟩
  · simp [execOp, hop, hit, hrun, Result.andThen]
    exact hK' _ _ (hDone h0)
  · simp [execOp, hop, hit, hrun, Result.andThen]
    have hne : bm ≠ r := fun e => by rw [e, hr] at hb; cases hb
    have hlt : r < w1.heap.size := by rcases hw1 with rfl | rfl <;> exact lt_of_block hr
    have hb1 : w1.heap[bm]? = some (.map es clock) := by rcases hw1 with rfl | rfl <;> exact hb
    have hsz : w1.heap.size = w.heap.size := by rcases hw1 with rfl | rfl <;> rfl
    have hbl : ∀ k : Nat, w1.heap[k]? = w.heap[k]? := fun k => by rcases hw1 with rfl | rfl <;> rfl
    have hB1 : ∀ B, Below B w w1 := fun B => by rcases hw1 with rfl | rfl; exact Below.refl _ _; exact (Below.refl _ _).drew
    obtain ⟨q1, q2, q3, q4⟩ := setBlock_heap w1 r (.mapIter (some bm) since (seen.push e.born) clock) hlt
    exact hK' _ _ (hMore e he _ q1 (q2.trans hsz) (fun k hk => (q3 k hk).trans (hbl k)) (fun B hB => (hB1 B).trans (q4 B hB)) (run_entry_at _ r bm since seen es clock e q1 ((q3 bm hne).trans hb1) (mem_left he).1 hn))
end
end Go.Proofs.YtnkojoajcdhngaaDoor
