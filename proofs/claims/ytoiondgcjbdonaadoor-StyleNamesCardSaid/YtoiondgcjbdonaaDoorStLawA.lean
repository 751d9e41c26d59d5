/- Layer 5: StyleUnders and StyleBrackets: the walks. (Printed by gen_la.py.) -/
import Derived.Test.YtoiondgcjbdonaaDoorStW
import Derived.Test.YtoiondgcjbdonaaDoorBaseAlloc
namespace Go.Proofs.YtoiondgcjbdonaaDoor
set_option linter.unusedVariables false
set_option linter.unusedSimpArgs false
set_option maxRecDepth 100000
open Go.RowKit Go.Shelf Go.Lib Go.Sort

theorem lkEq_self (u : Lk) : lkEq u.has u.col.r u.col.g u.col.b u.col.a u.bak.r u.bak.g u.bak.b u.bak.a u.pad u.has u.col.r u.col.g u.col.b u.col.a u.bak.r u.bak.g u.bak.b u.bak.a u.pad u.brd u.brd = true := by rw [lkEq_iff]; exact decide_eq_true rfl

set_option maxHeartbeats 4000000 in
set_option maxRecDepth 100000 in
theorem walkStyleUnders (w : World) (hT : Tabs w) (a b : Lk) (ha : a.In) (hb : b.In) : Calls Tryd.prog 4 #[lkV a, lkV b] w fun e w' => e = .returned (.bool true) ∧ Below w.heap.size w w' := by
  have CU := fun w => under_any a b ha.1 hb.1 w
  have CR := fun w => rUnder_any a b ha.1 hb.1 w
  have hE := lkEq_self (underL a b)
  have HT := hid hT
  clear hT
  unfold lkV at CU CR ⊢
  generalize underL a b = u at *
  go_enter Tryd.func4, Tryd.ntmps4
  go_wp2_with fail
  refine (alive_any _ (tabs_on HT.out (by repeat (first | exact Below.refl _ _ | with_reducible refine Below.alloc ?_ (by first | (simp; done) | (simp; omega) | omega) _ | with_reducible refine Below.setCell ?_ (by first | (simp; done) | (simp; omega) | omega) _ | with_reducible refine Below.drew ?_ | with_reducible refine Below.trans ?_ (Below.mono (by assumption) (by first | (simp; done) | (simp; omega) | omega)))))).mono ?_
  rintro e w1 ⟨rfl, hb1⟩
  obtain ⟨hc1, hf1⟩ := bcell hb1
  have hs1 := hb1.size
  (try simp at hs1)
  have z0 : w.heap.size < w.heap.size + 1 + 1 := by omega
  have z1 : w.heap.size + 1 < w.heap.size + 1 + 1 := by omega
  have y0 : w.heap.size < w1.heap.size := by omega
  have y1 : w.heap.size + 1 < w1.heap.size := by omega
  have HB := hid hb1
  clear hb1
  go_wp2
  refine region_ext mixed (by kernel_rfl) ?_
  repeat (go_big_quiet_step (first | (go_at_call 22; exact in_ext (CU _)) | (go_at_call 23; exact in_ext (CR _))))
  refine wpQuiet_nil ?_
  intro w2 hb2
  go_wp2
  go_ret
  exact ⟨rfl, (((Below.refl _ _).alloc (Nat.le_refl _) _).alloc (by simp) _).trans ((HB.out.mono (by simp; omega)).trans (hb2.mono (by omega)))⟩

set_option maxHeartbeats 8000000 in
set_option maxRecDepth 100000 in
theorem walkStyleBrackets (w : World) (hT : Tabs w) (a b c : Lk) (ha : a.In) (hb : b.In) (hc : c.In) : Calls Tryd.prog 8 #[lkV a, lkV b, lkV c] w fun e w' => e = .returned (.bool true) ∧ Below w.heap.size w w' := by
  have l1 := under_lt a b
  have l2 := under_lt b c
  have C1 := fun w => under_any a b ha.1 hb.1 w
  have C2 := fun w => under_any (underL a b) c (by omega) hc.1 w
  have C3 := fun w => under_any b c hb.1 hc.1 w
  have C4 := fun w => under_any a (underL b c) ha.1 (by omega) w
  rw [← under_assoc ha.1 hb.1 hc.1] at C4
  have C5 := fun w => under_any { a with has := 15 } b (show 15 < 256 by omega) hb.1 w
  rw [full_under rfl hb.1] at C5
  have C6 := fun w => under_any Lk.none Lk.none (by decide) (by decide) w
  rw [show underL Lk.none Lk.none = Lk.none by decide] at C6
  have E1 := lkEq_self (underL (underL a b) c)
  have E2 := lkEq_self { a with has := 15 }
  have E3 := lkEq_self Lk.none
  have HT := hid hT
  clear hT l1 l2
  unfold lkV at C1 C2 C3 C4 C5 C6 ⊢
  simp only [Lk.none, Cl.zero, Int.natCast_zero] at C6 E3
  simp only [show ((15 : Nat) : Int) = 15 from rfl] at C5 E2
  generalize underL (underL a b) c = u at *
  generalize underL a b = p at *
  generalize underL b c = q at *
  go_enter Tryd.func8, Tryd.ntmps8
  go_wp2_with fail
  refine (alive_any _ (tabs_on HT.out (by repeat (first | exact Below.refl _ _ | with_reducible refine Below.alloc ?_ (by first | (simp; done) | (simp; omega) | omega) _ | with_reducible refine Below.setCell ?_ (by first | (simp; done) | (simp; omega) | omega) _ | with_reducible refine Below.drew ?_ | with_reducible refine Below.trans ?_ (Below.mono (by assumption) (by first | (simp; done) | (simp; omega) | omega)))))).mono ?_
  rintro e w1 ⟨rfl, hb1⟩
  obtain ⟨hc1, hf1⟩ := bcell hb1
  have hs1 := hb1.size
  (try simp at hs1)
  have hA : w1.heap[w.heap.size]? = some (.cells #[.int .u8 (a.has : Int), .int .u8 (a.col.r : Int), .int .u8 (a.col.g : Int), .int .u8 (a.col.b : Int), .int .u8 (a.col.a : Int), .int .u8 (a.bak.r : Int), .int .u8 (a.bak.g : Int), .int .u8 (a.bak.b : Int), .int .u8 (a.bak.a : Int), .bool a.brd, .int .i64 a.pad] 32 (0, 0)) := by rw [hb1.block _ (by simp; omega), heap_alloc_old _ _ (by simp; omega), heap_alloc_old _ _ (by simp)]; exact heap_alloc_new _ _
  have hBk : w1.heap[w.heap.size + 1]? = some (.cells #[.int .u8 (b.has : Int), .int .u8 (b.col.r : Int), .int .u8 (b.col.g : Int), .int .u8 (b.col.b : Int), .int .u8 (b.col.a : Int), .int .u8 (b.bak.r : Int), .int .u8 (b.bak.g : Int), .int .u8 (b.bak.b : Int), .int .u8 (b.bak.a : Int), .bool b.brd, .int .i64 b.pad] 32 (0, 0)) := by
    rw [hb1.block _ (by simp), heap_alloc_old _ _ (by simp)]
    exact heap_alloc2_new _ _ _
  have hCk : w1.heap[w.heap.size + 1 + 1]? = some (.cells #[.int .u8 (c.has : Int), .int .u8 (c.col.r : Int), .int .u8 (c.col.g : Int), .int .u8 (c.col.b : Int), .int .u8 (c.col.a : Int), .int .u8 (c.bak.r : Int), .int .u8 (c.bak.g : Int), .int .u8 (c.bak.b : Int), .int .u8 (c.bak.a : Int), .bool c.brd, .int .i64 c.pad] 32 (0, 0)) := by
    rw [hb1.block _ (by simp)]
    have h := heap_alloc_new ((w.alloc (.cells #[.int .u8 (a.has : Int), .int .u8 (a.col.r : Int), .int .u8 (a.col.g : Int), .int .u8 (a.col.b : Int), .int .u8 (a.col.a : Int), .int .u8 (a.bak.r : Int), .int .u8 (a.bak.g : Int), .int .u8 (a.bak.b : Int), .int .u8 (a.bak.a : Int), .bool a.brd, .int .i64 a.pad] 32)).alloc (.cells #[.int .u8 (b.has : Int), .int .u8 (b.col.r : Int), .int .u8 (b.col.g : Int), .int .u8 (b.col.b : Int), .int .u8 (b.col.a : Int), .int .u8 (b.bak.r : Int), .int .u8 (b.bak.g : Int), .int .u8 (b.bak.b : Int), .int .u8 (b.bak.a : Int), .bool b.brd, .int .i64 b.pad] 32)) (.cells #[.int .u8 (c.has : Int), .int .u8 (c.col.r : Int), .int .u8 (c.col.g : Int), .int .u8 (c.col.b : Int), .int .u8 (c.col.a : Int), .int .u8 (c.bak.r : Int), .int .u8 (c.bak.g : Int), .int .u8 (c.bak.b : Int), .int .u8 (c.bak.a : Int), .bool c.brd, .int .i64 c.pad] 32)
    simpa using h
  have hw1 : Below w.heap.size w w1 := ((((Below.refl _ _).alloc (Nat.le_refl _) _).alloc (by simp) _).alloc (by simp; omega) _).trans (hb1.mono (by simp; omega))
  have HW1 := hid hw1
  clear hb1 hw1 hc1 hf1
  go_wp2
  apply region_alloc 6 5 _ (.cells #[.int .u8 0, .int .u8 0, .int .u8 0, .int .u8 0, .int .u8 0, .int .u8 0, .int .u8 0, .int .u8 0, .int .u8 0, .bool false, .int .i64 0] 32) _ mixed rfl rfl (fun a w => by simp [go_sem]) (by kernel_rfl)
  · intro V hV
    have kA := blk_cell ((hV.block _ (lt_of_block hA)).trans hA)
    have kB := blk_cell ((hV.block _ (lt_of_block hBk)).trans hBk)
    have kC := blk_cell ((hV.block _ (lt_of_block hCk)).trans hCk)
    have hsV := hV.size
    have y0 : w.heap.size < V.heap.size := by omega
    have y1 : w.heap.size + 1 < V.heap.size := by omega
    have y2 : w.heap.size + 1 + 1 < V.heap.size := by omega
    simp only [List.length_cons, List.length_nil, Nat.reduceAdd, Nat.reduceSub, List.take_succ_cons, List.take_zero, List.drop_succ_cons, List.drop_zero, List.cons_append, List.nil_append, List.append_nil]
    repeat (go_big_quiet_step (first | (go_at_call 22; with_reducible exact in_ext (C1 _)) | (go_at_call 22; with_reducible exact in_ext (C2 _))))
    exact wpQuiet_nil rfl
  intro bl w2 hbl hblk hb2
  simp only [List.length_cons, List.length_nil, Nat.reduceAdd, Nat.reduceSub, List.take_succ_cons, List.take_zero, List.drop_succ_cons, List.drop_zero]
  refine wpList_store_row rfl 32 (.tmp 8) (.tmp 18) rfl bl #[.int .u8 (u.has : Int), .int .u8 (u.col.r : Int), .int .u8 (u.col.g : Int), .int .u8 (u.col.b : Int), .int .u8 (u.col.a : Int), .int .u8 (u.bak.r : Int), .int .u8 (u.bak.g : Int), .int .u8 (u.bak.b : Int), .int .u8 (u.bak.a : Int), .bool u.brd, .int .i64 u.pad] rfl rfl 32 _ hblk look_info rfl (one_lk u) ?_
  have hL : (w2.setRow bl #[.int .u8 (u.has : Int), .int .u8 (u.col.r : Int), .int .u8 (u.col.g : Int), .int .u8 (u.col.b : Int), .int .u8 (u.col.a : Int), .int .u8 (u.bak.r : Int), .int .u8 (u.bak.g : Int), .int .u8 (u.bak.b : Int), .int .u8 (u.bak.a : Int), .bool u.brd, .int .i64 u.pad]).heap[bl]? = some (.cells #[.int .u8 (u.has : Int), .int .u8 (u.col.r : Int), .int .u8 (u.col.g : Int), .int .u8 (u.col.b : Int), .int .u8 (u.col.a : Int), .int .u8 (u.bak.r : Int), .int .u8 (u.bak.g : Int), .int .u8 (u.bak.b : Int), .int .u8 (u.bak.a : Int), .bool u.brd, .int .i64 u.pad] 32 (0, 0)) := setRow_heap _ _ _ _ _ _ hblk
  have hw2 : Below w1.heap.size w1 (w2.setRow bl #[.int .u8 (u.has : Int), .int .u8 (u.col.r : Int), .int .u8 (u.col.g : Int), .int .u8 (u.col.b : Int), .int .u8 (u.col.a : Int), .int .u8 (u.bak.r : Int), .int .u8 (u.bak.g : Int), .int .u8 (u.bak.b : Int), .int .u8 (u.bak.a : Int), .bool u.brd, .int .i64 u.pad]) := below_setRow hb2 hbl _
  have hlt := lt_of_block hL
  have HB2 := hid hw2
  clear hb2 hblk
  generalize w2.setRow bl #[.int .u8 (u.has : Int), .int .u8 (u.col.r : Int), .int .u8 (u.col.g : Int), .int .u8 (u.col.b : Int), .int .u8 (u.col.a : Int), .int .u8 (u.bak.r : Int), .int .u8 (u.bak.g : Int), .int .u8 (u.bak.b : Int), .int .u8 (u.bak.a : Int), .bool u.brd, .int .i64 u.pad] = W2 at *
  have hA2 := (hw2.block _ (lt_of_block hA)).trans hA
  have hB2 := (hw2.block _ (lt_of_block hBk)).trans hBk
  have hC2 := (hw2.block _ (lt_of_block hCk)).trans hCk
  clear hw2 hA hBk hCk
  go_frame
  go_wp2
  apply region_alloc 6 5 _ (.cells #[.int .u8 0, .int .u8 0, .int .u8 0, .int .u8 0, .int .u8 0, .int .u8 0, .int .u8 0, .int .u8 0, .int .u8 0, .bool false, .int .i64 0] 32) _ mixed rfl rfl (fun a w => by simp [go_sem]) (by kernel_rfl)
  · intro V hV
    have kA := blk_cell ((hV.block _ (lt_of_block hA2)).trans hA2)
    have kB := blk_cell ((hV.block _ (lt_of_block hB2)).trans hB2)
    have kC := blk_cell ((hV.block _ (lt_of_block hC2)).trans hC2)
    have y0 : w.heap.size < V.heap.size := Nat.lt_of_lt_of_le (lt_of_block hA2) hV.size
    have y1 : w.heap.size + 1 < V.heap.size := Nat.lt_of_lt_of_le (lt_of_block hB2) hV.size
    have y2 : w.heap.size + 1 + 1 < V.heap.size := Nat.lt_of_lt_of_le (lt_of_block hC2) hV.size
    simp only [List.length_cons, List.length_nil, Nat.reduceAdd, Nat.reduceSub, List.take_succ_cons, List.take_zero, List.drop_succ_cons, List.drop_zero, List.cons_append, List.nil_append, List.append_nil]
    repeat (go_big_quiet_step (first | (go_at_call 22; with_reducible exact in_ext (C3 _)) | (go_at_call 22; with_reducible exact in_ext (C4 _))))
    exact wpQuiet_nil rfl
  intro cl w3 hcl hclk hb3
  simp only [List.length_cons, List.length_nil, Nat.reduceAdd, Nat.reduceSub, List.take_succ_cons, List.take_zero, List.drop_succ_cons, List.drop_zero]
  refine wpList_store_row rfl 32 (.tmp 9) (.tmp 23) rfl cl #[.int .u8 (u.has : Int), .int .u8 (u.col.r : Int), .int .u8 (u.col.g : Int), .int .u8 (u.col.b : Int), .int .u8 (u.col.a : Int), .int .u8 (u.bak.r : Int), .int .u8 (u.bak.g : Int), .int .u8 (u.bak.b : Int), .int .u8 (u.bak.a : Int), .bool u.brd, .int .i64 u.pad] rfl rfl 32 _ hclk look_info rfl (one_lk u) ?_
  have hR : (w3.setRow cl #[.int .u8 (u.has : Int), .int .u8 (u.col.r : Int), .int .u8 (u.col.g : Int), .int .u8 (u.col.b : Int), .int .u8 (u.col.a : Int), .int .u8 (u.bak.r : Int), .int .u8 (u.bak.g : Int), .int .u8 (u.bak.b : Int), .int .u8 (u.bak.a : Int), .bool u.brd, .int .i64 u.pad]).heap[cl]? = some (.cells #[.int .u8 (u.has : Int), .int .u8 (u.col.r : Int), .int .u8 (u.col.g : Int), .int .u8 (u.col.b : Int), .int .u8 (u.col.a : Int), .int .u8 (u.bak.r : Int), .int .u8 (u.bak.g : Int), .int .u8 (u.bak.b : Int), .int .u8 (u.bak.a : Int), .bool u.brd, .int .i64 u.pad] 32 (0, 0)) := setRow_heap _ _ _ _ _ _ hclk
  have hw3 : Below W2.heap.size W2 (w3.setRow cl #[.int .u8 (u.has : Int), .int .u8 (u.col.r : Int), .int .u8 (u.col.g : Int), .int .u8 (u.col.b : Int), .int .u8 (u.col.a : Int), .int .u8 (u.bak.r : Int), .int .u8 (u.bak.g : Int), .int .u8 (u.bak.b : Int), .int .u8 (u.bak.a : Int), .bool u.brd, .int .i64 u.pad]) := below_setRow hb3 hcl _
  clear hb3 hclk
  generalize w3.setRow cl #[.int .u8 (u.has : Int), .int .u8 (u.col.r : Int), .int .u8 (u.col.g : Int), .int .u8 (u.col.b : Int), .int .u8 (u.col.a : Int), .int .u8 (u.bak.r : Int), .int .u8 (u.bak.g : Int), .int .u8 (u.bak.b : Int), .int .u8 (u.bak.a : Int), .bool u.brd, .int .i64 u.pad] = W3 at *
  have kA := blk_cell ((hw3.block _ (lt_of_block hA2)).trans hA2)
  have kB := blk_cell ((hw3.block _ (lt_of_block hB2)).trans hB2)
  have kL := blk_cell ((hw3.block _ (lt_of_block hL)).trans hL)
  have kR := blk_cell hR
  have y0 : w.heap.size < W3.heap.size := Nat.lt_of_lt_of_le (lt_of_block hA2) hw3.size
  have y1 : w.heap.size + 1 < W3.heap.size := Nat.lt_of_lt_of_le (lt_of_block hB2) hw3.size
  have y2 : bl < W3.heap.size := Nat.lt_of_lt_of_le (lt_of_block hL) hw3.size
  have y3 : cl < W3.heap.size := lt_of_block hR
  have HB3 := hid (HW1.out.trans ((HB2.out.mono HW1.out.size).trans (hw3.mono (Nat.le_trans HW1.out.size HB2.out.size))))
  clear hw3 hR hL hA2 hB2 hC2 HB2 hbl hcl hlt
  go_frame
  go_wp2
  refine region_ext mixed (by kernel_rfl) ?_
  repeat (go_big_quiet_step (first | (go_at_call 22; with_reducible exact in_ext (C5 _)) | (go_at_call 22; with_reducible exact in_ext (C6 _))))
  refine wpQuiet_nil ?_
  intro w4 hb4
  go_wp2
  go_ret
  exact ⟨rfl, (HB3.out.alloc HB3.out.size _).trans (hb4.mono (by have := HB3.out.size; simp; omega))⟩
end Go.Proofs.YtoiondgcjbdonaaDoor
