/- Layer 8: form's means: an append whose block is the old one or a new one; maps from numbers to numbers. -/
import Derived.Test.YtnkojoajcdhngaaDoorTrAe
import Derived.Test.YtnkojoajcdhngaaDoorMapRun
import Derived.OwnWalkIn
namespace Go.Proofs.YtnkojoajcdhngaaDoor
set_option linter.unusedVariables false
set_option linter.unusedSimpArgs false
set_option maxRecDepth 100000
open Go.RowKit Go.Shelf Go.Lib Go.MapKept
set_option maxRecDepth 100000
set_option maxHeartbeats 8000000

section
variable {P : Program}
theorem run_append_new (w : World) (base : Nat) (t ty e : TypeId) (i : TypeInfo) (z : Value) (size bytes : Nat) (ht : P.underlying t = some (.slice e)) (hi : P.info? e = some i) (hz : i.zero = some z)
    (hsize : i.size = size) (hby : i.bytes = bytes) (hzs : z.cells.size = size) (hsz : 0 < size) (v : Value) (n : Nat) (xs : List Value) (hown : w.ownsRow base e size v n xs)
    (a : Addr) (m c : Nat) (news : List Value) (hl : news.length = m * size) (hnews : ∀ j u, news[j]? = some u → w.cell? (a.add j) = some u) (h1 : ∀ u ∈ news, u.oneCell' = true)
    (h63 : n + m ≤ maxLen) (hbytes : (n + m) * bytes ≤ 140737488355328) (hbase : base ≤ w.heap.size) :
    ∃ v' w', (Builtin.append_ #[t, t] ty #[v, .slice (some a) m c]).run P w = .ok v' w' ∧ w'.ownsRow base e size v' (n + m) (xs ++ news) ∧ w.grownBy w' v.ownBlock ∧ ∀ k, v'.ownBlock = some k → v.ownBlock = some k ∨ w.heap.size ≤ k := by
  obtain ⟨v', w', hr, h2, h3, _⟩ := run_append_own (P := P) w base t ty e i z size bytes ht hi hz hsize hby hzs hsz v n xs hown a m c news hl hnews h1 h63 hbytes hbase
  refine ⟨v', w', hr, h2, h3, ?_⟩
  subst hsize
  subst hby
  have hsmall : n + m ≤ 9223372036854775807 := by simp only [maxLen] at h63; omega
  rcases hown.2 with ⟨rfl, rfl⟩ | ⟨g, cap, cur, rfl, hbg, hg, hnc, hcm, hcs, htake⟩
  · by_cases hm : m = 0
    · subst hm
      have hn : news = [] := List.eq_nil_of_length_eq_zero (by simpa using hl)
      subst hn
      have hr2 : (Builtin.append_ #[t, t] ty #[.slice none 0 0, .slice (some a) 0 c]).run P w = .ok (.slice none 0 0) w := by
        simp [Builtin.append_, run_underlying ht, sizeOf, typeInfo, hi, Builtin.lenOf, Builtin.firstCells, loadCells, loadCellsFrom]
      rw [hr2] at hr
      injection hr with e1 _
      subst e1
      intro k hk
      cases hk
    · have hr2 := run_append_nil (P := P) w t ty e i z ht hi hz a m c news hl hnews (by omega) (by omega) (by have hb := hbytes; simp only [Nat.zero_add] at hb; omega)
      rw [hr2] at hr
      injection hr with e1 _
      subst e1
      intro k hk
      injection hk with hk
      exact .inr (by rw [← hk]; exact Nat.le_refl _)
  · by_cases hroom : n + m ≤ cap
    · have hfit : n * i.size + news.length ≤ cur.size := by rw [hl, hcs, ← Nat.add_mul]; exact Nat.mul_le_mul_right _ hroom
      have hr2 := run_append_room (P := P) w t ty e i ht hi g n cap cur hg a m c news hl hnews h1 hroom hfit
      rw [hr2] at hr
      injection hr with e1 _
      subst e1
      exact fun k hk => .inl hk
    · have holds : ∀ j u, xs[j]? = some u → w.cell? ((⟨g, 0, none⟩ : Addr).add j) = some u := hown.cells (g := g) rfl
      have hr2 := run_append_grow (P := P) w t ty e i z ht hi hz ⟨g, 0, none⟩ n cap xs hown.1 holds a m c news hl hnews (by omega) (by omega) (growslice_fits (by omega) hbytes)
      rw [hr2] at hr
      injection hr with e1 _
      subst e1
      intro k hk
      injection hk with hk
      exact .inr (by rw [← hk]; exact Nat.le_refl _)
end
section
variable {F : Fence} {m : Nat} {ops : Array Oper} {rest : List Oper} {o : Oper} {a : Act} {Q : Exit → Act → World → Prop} {w : World}
theorem append_intIn (hgd : o.guard = none) (s x : Operand) (ho : o.op = .call { callee := .builtin .append, args := #[s, x], argTypes := #[37, 37] }) (base : Nat) (v : Value) (l : List Int) (n : Int) (g : Nat)
    (hs : a.eval s = v) (hx : a.eval x = .slice (some ⟨g, 0, none⟩) 1 1) (hown : w.ownsRow base 3 1 v l.length (ints l)) (h0 : w.cell? ⟨g, 0, none⟩ = some (.int .i64 n)) (hn : l.length ≤ 1000000) (hbase : base ≤ w.heap.size)
    (h : ∀ v' w', w'.ownsRow base 3 1 v' (l ++ [n]).length (ints (l ++ [n])) → w.grownBy w' v.ownBlock → (∀ k, v'.ownBlock = some k → v.ownBlock = some k ∨ w.heap.size ≤ k) → wpListIn F m Tryd.prog ops Q rest (a.put o.dst v') w') : wpListIn F m Tryd.prog ops Q (o :: rest) a w := by
  obtain ⟨i0, hi, hz0, hz1, hz2⟩ := info_parts info_int
  refine wpListIn_plain hgd fun K hK' => ?_
  obtain ⟨v', w', hrun, r1, r2, r3⟩ := run_append_new (P := Tryd.prog) w base 37 o.type 3 i0 _ 1 8 Tryd.underlying37 hi hz0 hz1 hz2 rfl (by decide) v l.length (ints l) hown ⟨g, 0, none⟩ 1 1 (ints [n]) rfl (fun j u hj => by
    match j, hj with
    | 0, hj => simp [ints] at hj; subst hj; simpa [Addr.add] using h0
    | j + 1, hj => simp [ints] at hj) (ints_one _) (by unfold maxLen; omega) (by omega) hbase
  have hf := hK' (a.put o.dst v') w' (h v' w' (by rw [ints_append, List.length_append]; exact r1) r2 r3)
  unfold Oper.wpIn
  refine ⟨?_, ?_⟩
  · simp [Oper.about, ho, resolve, Target.leads, Sem.run_pure]
  · rw [Oper.semAt_plain F _ _ (by rw [ho]; intro c hc'; cases hc')]
    simp [execOp, ho, resolve, invoke, builtin, hs, hx, hrun, Result.andThen]
    exact hf
end

/-! ### Maps from numbers to their places in a row -/
def entV (O : List Int) : List (Int × Value) := O.zipIdx.map fun p => (p.1, .int .i64 (p.2 : Int))
def entE (O : List Int) : Array MapEntry := (ents 0 ((entV O).map fun p => (.int .i64 p.1, p.2))).toArray
def posI (O : List Int) (k : Int) : Int := ((O.zipIdx.find? fun p => p.1 == k).map fun p => (p.2 : Int)).getD 0
theorem ents_append : ∀ (i : Nat) (l m : List (Value × Value)), ents i (l ++ m) = ents i l ++ ents (i + l.length) m
  | _, [], _ => rfl
  | i, p :: t, m => by
    simp only [List.cons_append, ents, List.length_cons]
    rw [ents_append (i + 1) t m, show i + 1 + t.length = i + (t.length + 1) by omega]
theorem entE_push (O : List Int) (x : Int) : (entE O).push { key := .int .i64 x, val := .int .i64 (O.length : Int), born := O.length } = entE (O ++ [x]) := by
  unfold entE entV
  rw [List.zipIdx_append, List.map_append, List.map_append, ents_append]
  simp [ents]
theorem find_ent (O : List Int) (x : Int) : ∃ r, Instr.findNow (.int .i64) (.int .i64 x) (entE O).toList 0 = some r ∧ r.map (·.2) = ((O.zipIdx.find? fun p => p.1 == x).map fun p => Value.int .i64 (p.2 : Int)) := by
  obtain ⟨r, h1, h2⟩ := find_int .i64 x (entV O) 0 0
  refine ⟨r, h1, ?_⟩
  rw [h2]
  unfold entV
  rw [List.find?_map, Option.map_map]
  rfl
theorem ins_at {W : World} {b : Nat} {O : List Int} {x : Int} (h : W.heap[b]? = some (.map (entE O) O.length)) (hx : x ∉ O) :
    (Instr.mapUpdate 110 (.map (some b)) (.int .i64 x) (.int .i64 (O.length : Int))).run Tryd.prog W = .ok () (W.putObj b (.map (entE (O ++ [x])) (O.length + 1))) := by
  obtain ⟨r, h1, h2⟩ := find_ent O x
  have hn : (O.zipIdx.find? fun p => p.1 == x) = none := by
    rw [List.find?_eq_none]
    intro p hp hq
    simp only [beq_iff_eq] at hq
    subst hq
    exact hx (List.fst_mem_of_mem_zipIdx hp)
  rw [hn] at h2
  have hr : r = none := by
    cases r with
    | none => rfl
    | some _ => cases h2
  subst hr
  unfold Instr.mapUpdate
  simp only [Sem.run_bind, run_underlying Tryd.underlying110, Result.andThen, getObj, Sem.run, h, run_checkKey Tryd.underlying3 (d := .int .i64) (k := .int .i64 x) rfl, run_findKey Tryd.underlying3 h1, run_set_map h]
  rw [entE_push]
theorem look_at {W : World} {b c : Nat} {O : List Int} (x : Int) (h : W.heap[b]? = some (.map (entE O) c)) :
    (Instr.lookup 110 (.map (some b)) (.int .i64 x) false).run Tryd.prog W = .ok (.int .i64 (posI O x)) W := by
  obtain ⟨r, h1, h2⟩ := find_ent O x
  have := run_lookup_now (P := Tryd.prog) (w := W) (K := 3) (E := 3) (d := .int .i64) Tryd.underlying110 Tryd.underlying3 (key := .int .i64 x) rfl h h1 (z := .int .i64 0) (by simp [go_sem]) false
  rw [this, h2]
  unfold posI
  congr 1
  cases (O.zipIdx.find? fun p => p.1 == x) <;> rfl
end Go.Proofs.YtnkojoajcdhngaaDoor
