/- Layer 21: awake. (Printed by gen_w21.py.) -/
import Derived.Test.YtddigbhijfpmkaaDoorKeSp
import Derived.Test.YtddigbhijfpmkaaDoorKeI
import Derived.Test.YtddigbhijfpmkaaDoorKeK
namespace Go.Proofs.YtddigbhijfpmkaaDoor
set_option linter.unusedVariables false
set_option linter.unusedSimpArgs false
set_option maxRecDepth 100000
open Go.RowKit Go.Shelf Go.Lib
set_option maxRecDepth 100000
set_option maxHeartbeats 8000000

theorem aw1 (w : World) (hT : Tabs w) : Calls Tryd.prog 14 #[.string ⟨#[115, 104, 105, 102, 116, 43, 99, 116, 114, 108, 43, 117, 112]⟩] w fun e w' => e = .returned (.tuple #[.agg #[.string ⟨#[117, 112]⟩, .int .u8 3], .int .i64 0, .int .i64 0]) ∧ Below w.heap.size w w' := by
  have C := Parse_any ⟨#[115, 104, 105, 102, 116, 43, 99, 116, 114, 108, 43, 117, 112]⟩ w hT
  rw [show ParseL (ByteArray.mk #[115, 104, 105, 102, 116, 43, 99, 116, 114, 108, 43, 117, 112]).data.toList = (⟨[117, 112], 3⟩, 0, 0) by kernel_rfl] at C
  exact C
theorem aw2 (w : World) (hT : Tabs w) : Calls Tryd.prog 14 #[.string ⟨#[97, 108, 116, 43, 97, 108, 116, 43, 120]⟩] w fun e w' => e = .returned (.tuple #[.agg #[.string ⟨#[]⟩, .int .u8 0], .int .i64 4, .int .i64 210]) ∧ Below w.heap.size w w' := by
  have C := Parse_any ⟨#[97, 108, 116, 43, 97, 108, 116, 43, 120]⟩ w hT
  rw [show ParseL (ByteArray.mk #[97, 108, 116, 43, 97, 108, 116, 43, 120]).data.toList = (⟨[], 0⟩, 4, 210) by kernel_rfl] at C
  exact C
theorem aw3 (w : World) (hT : Tabs w) : Calls Tryd.prog 15 #[.agg #[.string ⟨#[120]⟩, .int .u8 7]] w fun e w' => e = .returned (.tuple #[.string ⟨#[99, 116, 114, 108, 43, 97, 108, 116, 43, 115, 104, 105, 102, 116, 43, 120]⟩, .int .i64 0]) ∧ Below w.heap.size w w' := by
  have C := Text_any ⟨#[120]⟩ 7 w hT
  rw [show textT ⟨(ByteArray.mk #[120]).data.toList, 7⟩ = .tuple #[.string ⟨#[99, 116, 114, 108, 43, 97, 108, 116, 43, 115, 104, 105, 102, 116, 43, 120]⟩, .int .i64 0] by kernel_rfl] at C
  exact C
theorem aw4 {n m : Nat} (w : World) (hT : Tabs w) (h0 : w.heap[n]? = some (.cells #[.string ⟨#[99, 116, 114, 108, 43, 120, 32, 99, 116, 114, 108, 43, 115]⟩, .string ⟨#[99, 116, 114, 108, 43, 120]⟩] 9 (0, 0))) (h1 : w.heap[m]? = some (.cells #[.string ⟨#[120]⟩, .int .u8 2] 31 (0, 0))) :
    Calls Tryd.prog 17 #[.slice (some ⟨n, 0, none⟩) 2 2, .slice (some ⟨m, 0, none⟩) 1 1] w fun e w' => e = .returned (.tuple #[.int .i64 1, .bool true, .int .i64 0]) ∧ Below w.heap.size w w' := by
  have a0 : At w.heap.size w (some ⟨n, 0, none⟩) (strs [[99, 116, 114, 108, 43, 120, 32, 99, 116, 114, 108, 43, 115], [99, 116, 114, 108, 43, 120]]) := fun _ => ⟨n, 0, rfl, blk_lt2 h0, fun j v hj => by
    rw [Nat.zero_add, blk_cell h0]
    simpa [strs] using hj⟩
  have a1 : At w.heap.size w (some ⟨m, 0, none⟩) (kys [⟨[120], 2⟩]) := fun _ => ⟨m, 0, rfl, blk_lt2 h1, fun j v hj => by
    rw [Nat.zero_add, blk_cell h1]
    simpa [kys] using hj⟩
  have C := Match_any _ _ _ 2 1 _ _ w hT a0 a1 (Nat.le_refl _) (by decide) (by decide)
  rw [show matchL [[99, 116, 114, 108, 43, 120, 32, 99, 116, 114, 108, 43, 115], [99, 116, 114, 108, 43, 120]] [⟨[120], 2⟩] = (1, true, 0) by kernel_rfl] at C
  exact C
theorem aw5 (w : World) (hT : Tabs w) : Calls Tryd.prog 10 #[.string ⟨#[120, 27, 91, 49, 59, 53, 67, 27, 91, 49, 59]⟩] w fun e w' => ∃ A c, e = .returned (.tuple #[.slice A 2 c, .int .i64 4, .int .i64 0]) ∧ w'.ownsRow w.heap.size 31 2 (.slice A 2 c) 2 (kys [⟨[120], 0⟩, ⟨[114, 105, 103, 104, 116], 2⟩]) ∧ Below w.heap.size w w' := by
  have C := Bytes_any ⟨#[120, 27, 91, 49, 59, 53, 67, 27, 91, 49, 59]⟩ w hT
  rw [show BytesL (ByteArray.mk #[120, 27, 91, 49, 59, 53, 67, 27, 91, 49, 59]).data.toList = ([⟨[120], 0⟩, ⟨[114, 105, 103, 104, 116], 2⟩], 4, 0) by kernel_rfl] at C
  exact C
theorem aw6 (w : World) (hT : Tabs w) : Calls Tryd.prog 16 #[.string ⟨#[99, 116, 114, 108, 43, 120, 32, 99, 116, 114, 108, 43, 115]⟩] w fun e w' => ∃ A c, e = .returned (.tuple #[.slice A 2 c, .int .i64 0, .int .i64 0]) ∧ w'.ownsRow w.heap.size 31 2 (.slice A 2 c) 2 (kys [⟨[120], 2⟩, ⟨[115], 2⟩]) ∧ Below w.heap.size w w' := by
  have C := Chord_any ⟨#[99, 116, 114, 108, 43, 120, 32, 99, 116, 114, 108, 43, 115]⟩ w hT
  rw [show chordL (ByteArray.mk #[99, 116, 114, 108, 43, 120, 32, 99, 116, 114, 108, 43, 115]).data.toList = ([⟨[120], 2⟩, ⟨[115], 2⟩], 0, 0) by kernel_rfl] at C
  exact C
theorem kq1 : keyEq ⟨#[117, 112]⟩ ⟨#[117, 112]⟩ 3 3 = true := by kernel_rfl
theorem kq2 : keyEq ⟨#[114, 105, 103, 104, 116]⟩ ⟨#[114, 105, 103, 104, 116]⟩ 2 2 = true := by kernel_rfl
theorem kq3 : keyEq ⟨#[115]⟩ ⟨#[115]⟩ 2 2 = true := by kernel_rfl
theorem two_cells {w : World} {base c : Nat} {A : Option Addr} {a b : Ky} (h : w.ownsRow base 31 2 (.slice A 2 c) 2 (kys [a, b])) : ∃ g, A = some ⟨g, 0, none⟩ ∧ g < w.heap.size ∧ w.cell? ⟨g, 2, none⟩ = some (.string ⟨b.nm.toArray⟩) ∧ w.cell? ⟨g, 3, none⟩ = some (.int .u8 (b.md : Int)) := by
  obtain ⟨g, rfl, h1, h2⟩ := own_head h (by decide)
  obtain ⟨g', o, hA, hg', c0, c1⟩ := (At.of_own h).ky (k := 1) (by simp)
  have e : g = g' ∧ 0 = o := by
    injection hA with hA
    injection hA with e1 e2
    exact ⟨e1, e2⟩
  obtain ⟨rfl, rfl⟩ := e
  exact ⟨g, rfl, h2, c0, c1⟩
theorem awake_any (w : World) (hT : Tabs w) : Calls Tryd.prog 9 #[] w fun e w' => e = .returned (.bool true) ∧ Below w.heap.size w w' := by
  have q1 := kq1
  have q2 := kq2
  have q3 := kq3
  have P1 := aw1 w hT
  go_enter Tryd.func9, Tryd.ntmps9
  go_wp2_with fail
  with_reducible refine P1.mono ?_
  rintro e w1 ⟨rfl, hb1⟩
  have hB1 := hb1.alloc hb1.size (.cells #[.string ⟨#[117, 112]⟩, .int .u8 3] 31)
  have x1 : Box2 (w1.alloc (.cells #[.string ⟨#[117, 112]⟩, .int .u8 3] 31)) w1.heap.size ⟨#[117, 112]⟩ 3 := box_new _ _ 3
  have P2 := aw2 _ (tabs_on hT hB1)
  clear P1 hb1
  go_wp2_with fail
  with_reducible refine P2.mono ?_
  rintro e w2 ⟨rfl, hb2⟩
  have hs2 := hb2.size
  simp only [World.size_alloc] at hs2
  have x2 := (x1.below hb2 (by simp)).below ((Below.refl w2.heap.size w2).alloc (Nat.le_refl _) (.cells #[.string ⟨#[]⟩, .int .u8 0] 31)) (by omega)
  have hB2 := (hB1.trans (hb2.mono hB1.size)).alloc (hB1.trans (hb2.mono hB1.size)).size (.cells #[.string ⟨#[]⟩, .int .u8 0] 31)
  have P3 := aw3 _ (tabs_on hT hB2)
  clear P2 hb2 x1 hB1
  go_wp2_with fail
  with_reducible refine P3.mono ?_
  rintro e w3 ⟨rfl, hb3⟩
  have hs3 := hb3.size
  simp only [World.size_alloc] at hs3
  have x3 := x2.below hb3 (by simp; omega)
  have hB3 := hB2.trans (hb3.mono hB2.size)
  have hA3 := ((Below.refl w3.heap.size w3).alloc (Nat.le_refl _) (.cells #[.string ⟨#[99, 116, 114, 108, 43, 120, 32, 99, 116, 114, 108, 43, 115]⟩, .string ⟨#[99, 116, 114, 108, 43, 120]⟩] 9)).alloc (by simp) (.cells #[.string ⟨#[120]⟩, .int .u8 2] 31)
  have x4 := x3.below hA3 (by omega)
  have hB4 := hB3.trans (hA3.mono hB3.size)
  have P4 := aw4 (n := w3.heap.size) (m := w3.heap.size + 1) _ (tabs_on hT hB4) (by rw [Below.heap_alloc _ _ _ (by simp)]; exact World.alloc_heap_new _ _) (by have := World.alloc_heap_new (w3.alloc (.cells #[.string ⟨#[99, 116, 114, 108, 43, 120, 32, 99, 116, 114, 108, 43, 115]⟩, .string ⟨#[99, 116, 114, 108, 43, 120]⟩] 9)) (.cells #[.string ⟨#[120]⟩, .int .u8 2] 31); simpa using this)
  clear P3 hb3 x2 hB2 x3 hB3 hA3
  go_wp2_with fail
  with_reducible refine P4.mono ?_
  rintro e w5 ⟨rfl, hb5⟩
  have hs5 := hb5.size
  simp only [World.size_alloc] at hs5
  have x5 := x4.below hb5 (by simp; omega)
  have hB5 := hB4.trans (hb5.mono hB4.size)
  have P5 := aw5 _ (tabs_on hT hB5)
  clear P4 hb5 x4 hB4
  go_wp2_with fail
  with_reducible refine P5.mono ?_
  rintro e w6 ⟨A6, c6, rfl, hown6, hb6⟩
  have hs6 := hb6.size
  have x6 := x5.below hb6 (by omega)
  have hB6 := hB5.trans (hb6.mono hB5.size)
  have P6 := aw6 _ (tabs_on hT hB6)
  clear P5 hb6 x5 hB5
  go_wp2_with fail
  with_reducible refine P6.mono ?_
  rintro e w7 ⟨A7, c7, rfl, hown7, hb7⟩
  have hs7 := hb7.size
  obtain ⟨c0, c1, c2, c3⟩ := x6.below hb7 (by omega)
  have hown8 := own_below' hown6 hb7
  have hB7 := hB6.trans (hb7.mono hB6.size)
  obtain ⟨g6, rfl, hg6, d2, d3⟩ := two_cells hown8
  obtain ⟨g7, rfl, hg7, e2, e3⟩ := two_cells hown7
  clear P6 hb7 x6 hB6 hown6 hown7 hown8
  go_wp2
  go_ret
  exact ⟨rfl, hB7⟩
end Go.Proofs.YtddigbhijfpmkaaDoor
