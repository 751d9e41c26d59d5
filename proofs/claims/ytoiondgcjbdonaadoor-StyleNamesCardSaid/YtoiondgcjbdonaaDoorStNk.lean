/- Layer 5: StyleNames: 257 rules made. -/
import Derived.Test.YtoiondgcjbdonaaDoorStNm
namespace Go.Proofs.YtoiondgcjbdonaaDoor
set_option linter.unusedVariables false
set_option linter.unusedSimpArgs false
set_option maxRecDepth 100000
open Go.RowKit Go.Shelf Go.Lib Go.Sort

theorem zero_cells (n : Nat) : (madeCells (Value.agg #[.int .u8 0, .string ByteArray.empty, .int .u8 0, .int .u8 0, .int .u8 0, .int .u8 0, .int .u8 0, .int .u8 0, .int .u8 0, .int .u8 0, .int .u8 0, .int .u8 0, .bool false, .int .i64 0]).cells (n * 14)).toList = rus (zeros n) := by
  apply List.ext_getElem?
  intro i
  by_cases hi : i < n * 14
  · have h14 : i % 14 < 14 := Nat.mod_lt _ (by omega)
    have hk : i / 14 < (zeros n).length := by rw [zeros_len]; omega
    have e := rus_at (zeros n) (i / 14) (i % 14) hk h14
    rw [show i / 14 * 14 + i % 14 = i by omega] at e
    rw [e]
    have ez : (zeros n)[i / 14] = zRu := by simp [zeros]
    rw [ez]
    rw [Array.getElem?_toList, Array.getElem?_eq_getElem (by rw [size_madeCells]; exact hi)]
    simp only [madeCells, Array.getElem_map, Array.getElem_range, Value.cells]
    show some (#[Value.int .u8 0, .string ByteArray.empty, .int .u8 0, .int .u8 0, .int .u8 0, .int .u8 0, .int .u8 0, .int .u8 0, .int .u8 0, .int .u8 0, .int .u8 0, .int .u8 0, .bool false, .int .i64 0][i % 14]!) = _
    generalize i % 14 = j at *
    match j, h14 with
    | 0, _ => rfl
    | 1, _ => rfl
    | 2, _ => rfl
    | 3, _ => rfl
    | 4, _ => rfl
    | 5, _ => rfl
    | 6, _ => rfl
    | 7, _ => rfl
    | 8, _ => rfl
    | 9, _ => rfl
    | 10, _ => rfl
    | 11, _ => rfl
    | 12, _ => rfl
    | 13, _ => rfl
    | j + 14, h => omega
  · rw [Array.getElem?_toList, Array.getElem?_eq_none (by rw [size_madeCells]; omega), List.getElem?_eq_none (by rw [rus_len, zeros_len]; omega)]
section
variable {ops : Array Oper} {rest : List Oper} {o : Oper} {a : Act} {Q : Exit → Act → World → Prop} {w : World}
theorem make_zeros (hgd : o.guard = none) (l c : Operand) (ho : o.op = Op.makeSlice 22 l c) (base : Nat) (hl : a.eval l = .int .i64 257) (hc : a.eval c = .int .i64 257) (hbase : base ≤ w.heap.size)
    (h : ∀ w', w'.ownsRow base 46 14 (.slice (some ⟨w.heap.size, 0, none⟩) 257 257) 257 (rus (zeros 257)) → w.grownBy w' none → wpList Tryd.prog ops Q rest (a.put o.dst (.slice (some ⟨w.heap.size, 0, none⟩) 257 257)) w') : wpList Tryd.prog ops Q (o :: rest) a w := by
  obtain ⟨i0, hi, hz0, hz1, hz2⟩ := info_parts info_rule
  refine wpList_make_full w hgd l c 22 ho base 46 i0 _ 14 Tryd.underlying22 hi hz0 hz1 .i64 .i64 _ _ 257 hl hc rfl rfl (by rw [hz2]; omega) (by unfold maxLen; omega) hbase (fun w' h4 h5 => ?_)
  refine h w' ?_ h5
  rw [← zero_cells 257]
  exact h4
end
end Go.Proofs.YtoiondgcjbdonaaDoor
