/- Layer 8: word: so many letters. -/
import Derived.Test.YtnkojoajcdhngaaDoorTr40
import Derived.Laws.IdiomStrings
namespace Go.Proofs.YtnkojoajcdhngaaDoor
set_option linter.unusedVariables false
set_option linter.unusedSimpArgs false
set_option maxRecDepth 100000
open Go.RowKit Go.Shelf Go.Lib
attribute [local go_sem] Oper.semAt_some
set_option maxRecDepth 100000
set_option maxHeartbeats 16000000

def wdB (n : Nat) : ByteArray := ⟨(List.replicate n 97).toArray⟩
theorem wdB_size (n : Nat) : (wdB n).size = n := by simp [wdB, ByteArray.size]
theorem info_u8 : (Tryd.prog.info? 5).map (fun i => (i.zero, i.size, i.bytes)) = some (some (.int .u8 0), 1, 1) := by kernel_rfl
def byRow (n k : Nat) : List Value := List.replicate k (.int .u8 97) ++ List.replicate (n - k) (.int .u8 0)
theorem byRow_at (n k : Nat) (h : k < n) : (byRow n k)[k]? = some (.int .u8 0) := by
  unfold byRow
  rw [List.getElem?_append_right (by simp), List.length_replicate, Nat.sub_self, List.getElem?_replicate, if_pos (by omega)]
theorem byRow_set (n k : Nat) (h : k < n) : (byRow n k).set k (.int .u8 97) = byRow n (k + 1) := by
  unfold byRow
  rw [List.set_append_right _ _ (by simp)]
  simp only [List.length_replicate, Nat.sub_self]
  rw [show n - k = (n - (k + 1)) + 1 by omega, List.replicate_succ, List.set_cons_zero, List.replicate_succ' , List.append_assoc]
  rfl
section
variable {ops : Array Oper} {rest : List Oper} {o : Oper} {a : Act} {Q : Exit → Act → World → Prop} {w : World}
theorem make_bytes (hgd : o.guard = none) (l c : Operand) (ho : o.op = Op.makeSlice 84 l c) (base n : Nat) (hl : a.eval l = .int .i64 n) (hc : a.eval c = .int .i64 n) (hn : n ≤ 1000000) (hbase : base ≤ w.heap.size)
    (h : ∀ w', w'.ownsRow base 5 1 (.slice (some ⟨w.heap.size, 0, none⟩) n n) n (byRow n 0) → w.grownBy w' none → wpList Tryd.prog ops Q rest (a.put o.dst (.slice (some ⟨w.heap.size, 0, none⟩) n n)) w') : wpList Tryd.prog ops Q (o :: rest) a w := by
  obtain ⟨i0, hi, hz0, hz1, hz2⟩ := info_parts info_u8
  refine wpList_make_full w hgd l c 84 ho base 5 i0 _ 1 Tryd.underlying84 hi hz0 hz1 .i64 .i64 _ _ n hl hc rfl rfl (by rw [hz2]; omega) (by unfold maxLen; omega) hbase (fun w' h4 h5 => ?_)
  refine h w' ?_ h5
  have e : (madeCells (Value.int .u8 0).cells (n * 1)).toList = byRow n 0 := by
    simp [byRow, Value.cells, toList_madeCells_one]
  rw [← e]
  exact h4
end
theorem conv_a {w : World} {base gb n : Nat} (h : w.ownsRow base 5 1 (.slice (some ⟨gb, 0, none⟩) n n) n (byRow n n)) :
    (convert 84 9 (.slice (some ⟨gb, 0, none⟩) n n)).run Tryd.prog w = .ok (.string (wdB n)) w := by
  have q := run_convert_bytes_back (P := Tryd.prog) w 84 9 5 ⟨gb, 0, none⟩ n (List.replicate n 97) Tryd.underlying84 Tryd.underlying5 Tryd.underlying9 (fun j hj => by
    have hj' : j < n := by simpa using hj
    rw [Addr.add_mid, Nat.zero_add, h.cellAt j (by omega)]
    unfold byRow
    rw [List.getElem?_append_left (by simp; omega)]
    rw [List.getElem?_replicate, if_pos (by omega), List.getElem_replicate]
    rfl)
  rw [List.length_replicate] at q
  exact q
theorem word_any (n : Nat) (hn : n ≤ 1000000) (w : World) : Calls Tryd.prog 15 #[.int .i64 n] w fun e w' => e = .returned (.string (wdB n)) ∧ Below w.heap.size w w' := by
  go_enter Tryd.func15, Tryd.ntmps15
  go_wp2_with (refine make_bytes rfl (.tmp 5) (.tmp 5) rfl w.heap.size n rfl rfl hn (Nat.le_refl _) ?_)
  intro w1 ho1 hg1
  have hb1 : Below w.heap.size w w1 := (Below.refl _ _).grown hg1 (Nat.le_refl _) (fun k hk => by cases hk)
  have H1 := hid (And.intro hb1 ho1)
  clear hg1 hb1 ho1
  obtain ⟨gb, hgb⟩ : ∃ gb, w.heap.size = gb := ⟨_, rfl⟩
  rw [hgb] at H1 ⊢
  have HGB := hid hgb
  clear hgb
  go_wp2_with fail
  go_loopg [4] n (fun gh i wq => ∃ k : Nat, i = .int .i64 k ∧ k ≤ n ∧ n - k ≤ gh ∧ Hid (Below gb w wq ∧ wq.ownsRow gb 5 1 (.slice (some ⟨gb, 0, none⟩) n n) n (byRow n k)))
  case atStart => exact ⟨0, rfl, by omega, by omega, H1⟩
  case round =>
    obtain ⟨k, rfl, hk, hgk, HB⟩ := hrel
    by_cases hlt : k < n
    · have hli : (k : Int) < (n : Int) := by omega
      have hcell := HB.out.2.cellAt k (by omega)
      rw [byRow_at n k hlt] at hcell
      have hfr := HB.out.2.frozenAt k
      have hst := own_store HB.out.2 k (.int .u8 97)
      rw [byRow_set n k hlt] at hst
      have hbs := HB.out.1.setCell (p := ⟨gb, k, none⟩) (Nat.le_refl _) (.int .u8 97)
      have HN := hid (And.intro hbs hst)
      clear HB hst hbs
      go_wp2
      go_roundg (n - (k + 1))
      case measure => omega
      case rel => exact ⟨k + 1, by go_num, by omega, by omega, HN⟩
    · have hli : ¬ ((k : Int) < (n : Int)) := by omega
      obtain rfl : k = n := by omega
      have hcv := conv_a HB.out.2
      clear hk hgk hlt H1
      go_wp2
      refine bodyPost_ret (v := .string (wdB k)) (by simp [results, Tryd.results15, go_sem, *]) rfl ⟨rfl, by rw [HGB.out]; exact HB.out.1⟩
end Go.Proofs.YtnkojoajcdhngaaDoor
