/- Layer 5: rows of numbers and of rules: one make, one append; a row that the sort has put in order. -/
import Derived.Test.YtoiondgcjbdonaaDoorStJ
import Derived.Test.YtoiondgcjbdonaaDoorStO
namespace Go.Proofs.YtoiondgcjbdonaaDoor
set_option linter.unusedVariables false
set_option linter.unusedSimpArgs false
set_option maxRecDepth 100000
open Go.RowKit Go.Shelf Go.Lib Go.Sort

theorem info_int : (Tryd.prog.info? 3).map (fun i => (i.zero, i.size, i.bytes)) = some (some (.int .i64 0), 1, 8) := by kernel_rfl
theorem info_bool : (Tryd.prog.info? 4).map (fun i => (i.zero, i.size, i.bytes)) = some (some (.bool false), 1, 1) := by kernel_rfl
theorem info_rule : (Tryd.prog.info? 46).map (fun i => (i.zero, i.size, i.bytes)) = some (some (.agg #[.int .u8 0, .string ByteArray.empty, .int .u8 0, .int .u8 0, .int .u8 0, .int .u8 0, .int .u8 0, .int .u8 0, .int .u8 0, .int .u8 0, .int .u8 0, .int .u8 0, .bool false, .int .i64 0]), 14, 56) := by kernel_rfl

section
variable {ops : Array Oper} {rest : List Oper} {o : Oper} {a : Act} {Q : Exit → Act → World → Prop} {w : World}
theorem append_int (hgd : o.guard = none) (s x : Operand) (ho : o.op = .call { callee := .builtin .append, args := #[s, x], argTypes := #[25, 25] }) (base : Nat) (v : Value) (l : List Int) (n : Int) (g : Nat)
    (hs : a.eval s = v) (hx : a.eval x = .slice (some ⟨g, 0, none⟩) 1 1) (hown : w.ownsRow base 3 1 v l.length (ints l)) (h0 : w.cell? ⟨g, 0, none⟩ = some (.int .i64 n)) (hn : l.length ≤ 1000000) (hbase : base ≤ w.heap.size)
    (h : ∀ v' w', w'.ownsRow base 3 1 v' (l ++ [n]).length (ints (l ++ [n])) → w.grownBy w' v.ownBlock → v' ≠ .slice none 0 0 → wpList Tryd.prog ops Q rest (a.put o.dst v') w') : wpList Tryd.prog ops Q (o :: rest) a w := by
  obtain ⟨i0, hi, hz0, hz1, hz2⟩ := info_parts info_int
  refine wpList_append_own w hgd s x 25 ho base 3 i0 _ 1 8 Tryd.underlying25 hi hz0 hz1 hz2 rfl (by decide) v l.length (ints l) hs hown ⟨g, 0, none⟩ 1 1 (ints [n]) hx rfl (fun j u hj => ?_) (ints_one _) (by unfold maxLen; omega) (by omega) hbase (fun v' w' h4 h5 h6 => ?_)
  · match j, hj with
    | 0, hj => simp [ints] at hj; subst hj; simpa [Addr.add] using h0
    | j + 1, hj => simp [ints] at hj
  · refine h v' w' (by rw [ints_append, List.length_append]; exact h4) h5 (fun e => ?_)
    have := (h6.1 e).2
    omega
/-- 'append(out, l...)', out nil or owned, l any slice (nil too). -/
theorem append_many {E S : TypeId} {size bytes : Nat} {i0 : TypeInfo} {z : Value} (hu : Tryd.prog.underlying S = some (.slice E)) (hi : Tryd.prog.info? E = some i0) (hz0 : i0.zero = some z) (hz1 : i0.size = size) (hz2 : i0.bytes = bytes) (hzs : z.cells.size = size) (hsz : 0 < size)
    (hgd : o.guard = none) (s x : Operand) (ho : o.op = .call { callee := .builtin .append, args := #[s, x], argTypes := #[S, S] }) (base : Nat) (v : Value) (n : Nat) (xs : List Value) (A : Option Addr) (m c B : Nat) (ys : List Value)
    (hs : a.eval s = v) (hx : a.eval x = .slice A m c) (hnil : A = none → m = 0 ∧ c = 0) (hown : w.ownsRow base E size v n xs) (hy : At B w A ys) (hyl : ys.length = m * size) (h1 : ∀ u ∈ ys, u.oneCell' = true) (h63 : n + m ≤ maxLen) (hbytes : (n + m) * bytes ≤ 140737488355328) (hbase : base ≤ w.heap.size)
    (h : ∀ v' w', w'.ownsRow base E size v' (n + m) (xs ++ ys) → w.grownBy w' v.ownBlock → wpList Tryd.prog ops Q rest (a.put o.dst v') w') : wpList Tryd.prog ops Q (o :: rest) a w := by
  cases A with
  | some ad =>
    refine wpList_append_own w hgd s x S ho base E i0 z size bytes hu hi hz0 hz1 hz2 hzs hsz v n xs hs hown ad m c ys hx hyl (fun j u hj => ?_) h1 h63 hbytes hbase (fun v' w' h4 h5 _ => h v' w' h4 h5)
    have hpos : 0 < ys.length := by
      have := (List.getElem?_eq_some_iff.1 hj).1
      omega
    obtain ⟨g, o', hA, hg, hc⟩ := hy hpos
    have := hc j u hj
    injection hA with hA
    subst hA
    by_cases h0 : j = 0
    · subst h0
      simpa [Addr.add] using this
    · simpa [Addr.add, h0] using this
  | none =>
    obtain ⟨rfl, rfl⟩ := hnil rfl
    have hys : ys = [] := List.eq_nil_of_length_eq_zero (by simpa using hyl)
    subst hys
    refine wpList_plain hgd fun K hK' => ?_
    obtain ⟨A', c', rfl⟩ := own_shape hown
    have hrun := run_append_owned_none (P := Tryd.prog) w base S o.type E i0 size hu hi _ n xs hown
    unfold Oper.wp
    simp [execOp, ho, resolve, invoke, builtin, hs, hx, hrun, Result.andThen]
    exact hK' _ _ (h _ w (by simpa using hown) (World.grownBy.refl _ _))
theorem make_ints (hgd : o.guard = none) (l c : Operand) (ho : o.op = Op.makeSlice 25 l c) (base n : Nat) (hl : a.eval l = .int .i64 (n : Int)) (hc : a.eval c = .int .i64 (n : Int)) (hn : n ≤ 1000000) (hbase : base ≤ w.heap.size)
    (h : ∀ w', w'.ownsRow base 3 1 (.slice (some ⟨w.heap.size, 0, none⟩) n n) n (ints (List.replicate n 0)) → w.grownBy w' none → wpList Tryd.prog ops Q rest (a.put o.dst (.slice (some ⟨w.heap.size, 0, none⟩) n n)) w') : wpList Tryd.prog ops Q (o :: rest) a w := by
  obtain ⟨i0, hi, hz0, hz1, hz2⟩ := info_parts info_int
  refine wpList_make_full w hgd l c 25 ho base 3 i0 _ 1 Tryd.underlying25 hi hz0 hz1 .i64 .i64 _ _ n hl hc rfl rfl (by rw [hz2]; omega) (by unfold maxLen; omega) hbase (fun w' h4 h5 => ?_)
  refine h w' ?_ h5
  have e : (madeCells (Value.int .i64 0).cells (n * 1)).toList = ints (List.replicate n 0) := by
    rw [Nat.mul_one]
    simp [ints, Value.cells, toList_madeCells_one]
  rw [← e]
  exact h4
end

/-! Plain words on lists by index. -/
theorem set_range {α : Type} (n k : Nat) (f : Nat → α) (v : α) : ((List.range n).map f).set k v = (List.range n).map (fun i => if i = k then v else f i) := by
  apply List.ext_getElem
  · simp
  · intro i h1 h2
    simp only [List.getElem_set, List.getElem_map, List.getElem_range]
    by_cases e : k = i
    · subst e
      simp
    · have e' : ¬ i = k := fun h => e h.symm
      simp [e, e']
theorem map_range_congr {α : Type} {n : Nat} {f g : Nat → α} (h : ∀ i, i < n → f i = g i) : (List.range n).map f = (List.range n).map g := List.map_congr_left fun i hi => h i (List.mem_range.1 hi)
theorem replicate_range {α : Type} (n : Nat) (v : α) : List.replicate n v = (List.range n).map fun _ => v := by
  apply List.ext_getElem
  · simp
  · intro i h1 h2
    simp
theorem range_snoc {α : Type} (n : Nat) (f : Nat → α) : (List.range (n + 1)).map f = (List.range n).map f ++ [f n] := by
  rw [List.range_succ, List.map_append]
  rfl

theorem sw_owns {nn g base n cap m : Nat} {wr w' : World} {xs : List Value} {d : Array Nat} (h : wr.ownsRow base 3 1 (.slice (some ⟨g, 0, none⟩) n cap) n xs) (s : SW (encN nn) wr g 0 d w') (hd : d.size = n) (hm : m = n) (ho : ∀ x ∈ d.toList, x < nn) :
    w'.ownsRow base 3 1 (.slice (some ⟨g, 0, none⟩) n cap) n (ints (d.toList.map Int.ofNat)) := by
  rcases h.2 with ⟨hv, _⟩ | ⟨g', cap', cur, hv, hb, hh, hn, hcap, hcs, _⟩
  · cases hv
  · cases hv
    obtain ⟨q, os, rfl⟩ := s
    refine ⟨by simp [ints, hd], .inr ⟨g, cap, putCells (encN nn) 0 d cur, rfl, hb, ?_, hn, hcap, by simp [putCells, hcs], ?_⟩⟩
    · show ((wr.heap.modify g (onCells (putCells (encN nn) 0 d))) ++ os)[g]? = _
      have hlt := lt_of_block hh
      rw [Array.getElem?_append_left (by simpa using hlt), Array.getElem?_modify, if_pos rfl, hh]
      rfl
    · apply List.ext_getElem?
      intro k
      rw [List.getElem?_take]
      split
      · next hk =>
        have hkn : k < n := by omega
        have hkc : k < cur.size := by omega
        have hkd : k < d.size := by omega
        have e1 : (putCells (encN nn) 0 d cur).toList[k]? = some (encN nn d[k]!) := by
          rw [Array.getElem?_toList]
          unfold putCells
          rw [Array.getElem?_mapIdx, Array.getElem?_eq_getElem hkc]
          simp only [Option.map_some]
          rw [if_pos (by omega)]
          rfl
        rw [e1]
        have e2 : (ints (d.toList.map Int.ofNat))[k]? = some (.int .i64 (d[k]! : Int)) := by
          rw [ints_at _ k (by simpa using hkd)]
          rw [getElem!_pos d k hkd]
          simp
        rw [e2]
        unfold encN
        rw [Nat.mod_eq_of_lt (ho _ (by rw [getElem!_pos d k hkd]; simp))]
      · next hk =>
        rw [List.getElem?_eq_none]
        simp [ints]; omega
theorem sw_below {nn g off B : Nat} {wr w' : World} {d : Array Nat} (s : SW (encN nn) wr g off d w') (hB : B ≤ g) (hw : B ≤ wr.heap.size) : Below B wr w' := by
  obtain ⟨q, os, rfl⟩ := s
  refine ⟨rfl, rfl, rfl, ?_, fun k hk => ?_⟩
  · show wr.heap.size ≤ ((wr.heap.modify g _) ++ os).size
    simp
  · show ((wr.heap.modify g (onCells (putCells (encN nn) off d))) ++ os)[k]? = _
    rw [Array.getElem?_append_left (by simp; omega), Array.getElem?_modify, if_neg (by omega)]
end Go.Proofs.YtoiondgcjbdonaaDoor
