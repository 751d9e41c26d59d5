/- Layer 21: the walk of KeysText. -/
import Derived.Test.YtddigbhijfpmkaaDoorKeW
namespace Go.Proofs.YtddigbhijfpmkaaDoor
set_option linter.unusedVariables false
set_option linter.unusedSimpArgs false
set_option maxRecDepth 100000
open Go.RowKit Go.Shelf Go.Lib
set_option maxRecDepth 100000
set_option maxHeartbeats 8000000

theorem text_shape (k : Ky) : ∃ (tb : ByteArray) (te : Int), textT k = .tuple #[.string tb, .int .i64 te] := by
  unfold textT
  split
  · exact ⟨_, _, rfl⟩
  · exact ⟨_, _, rfl⟩
theorem keyT_shape (Z : Ky × Nat × Nat) : ∃ (pb : ByteArray) (pm : Int) (pa pe : Int), keyT Z = .tuple #[.agg #[.string pb, .int .u8 pm], .int .i64 pa, .int .i64 pe] := ⟨_, _, _, _, rfl⟩
theorem keyEq_refl (a : ByteArray) (m : Int) : keyEq a a m m = true := by simp [keyEq]
theorem walkKeysText (w : World) (hT : Tabs w) (nm : ByteArray) (md : Nat) (s : ByteArray) (hn : nm.size ≤ 9223372036854775807) :
    Calls Tryd.prog 7 #[.agg #[.string nm, .int .u8 (md : Int)], .string s] w fun e w' => e = .returned (.bool true) ∧ Below w.heap.size w w' := by
  obtain ⟨tb, te, htx⟩ := text_shape ⟨nm.data.toList, md⟩
  obtain ⟨pb, pm, pa, pe, hpt⟩ := keyT_shape (ParseL s.data.toList)
  have CT := fun w1 (hb : Below w.heap.size w w1) => Text_any nm md w1 (tabs_on hT hb)
  have CR := fun w1 (hb : Below w.heap.size w w1) => rText_any nm md w1 (tabs_on hT hb) hn
  have CP := fun w1 (hb : Below w.heap.size w w1) => Parse_any s w1 (tabs_on hT hb)
  have CQ := fun w1 (hb : Below w.heap.size w w1) => rParse_any s w1 (tabs_on hT hb)
  have CC := fun w1 (hb : Below w.heap.size w w1) => Chord_any s w1 (tabs_on hT hb)
  have CD := fun w1 (hb : Below w.heap.size w w1) => rChord_any s w1 (tabs_on hT hb)
  have CA := fun w1 (hb : Below w.heap.size w w1) => awake_any w1 (tabs_on hT hb)
  have hlen := chord_len s.data.toList
  rw [htx] at CT CR
  rw [hpt] at CP CQ
  obtain ⟨⟨Zl, Za, Ze⟩, hZ⟩ : ∃ y, chordL s.data.toList = y := ⟨_, rfl⟩
  rw [hZ] at CC CD hlen
  unfold ChordP at CC CD
  simp only at CC CD
  simp only at hlen
  have HCA := hid CA
  have HCT := hid CT
  have HCR := hid CR
  have HCP := hid CP
  have HCQ := hid CQ
  have HCC := hid CC
  have HCD := hid CD
  have hk := keyEq_refl pb pm
  clear CA CT CR CP CQ CC CD hT htx hpt hZ hn
  obtain ⟨Zn, hZn⟩ : ∃ n, Zl.length = n := ⟨_, rfl⟩
  have HZN := hid hZn
  rw [hZn] at HCC HCD hlen
  clear hZn
  have hlen2 : Zn ≤ 4611686018427387904 := by omega
  have hB1 := (Below.refl w.heap.size w).alloc (Nat.le_refl _) (.cells #[.string nm, .int .u8 (md : Int)] 31)
  have x1 : Box2 (w.alloc (.cells #[.string nm, .int .u8 (md : Int)] 31)) w.heap.size nm md := box_new w nm md
  go_enter Tryd.func7, Tryd.ntmps7
  go_wp2_with fail
  with_reducible refine (HCA.out _ hB1).mono ?_
  rintro e w1 ⟨rfl, hb1⟩
  have hs1 := hb1.size
  simp only [World.size_alloc] at hs1
  have x2 := x1.below hb1 (by simp)
  obtain ⟨c0, c1, c2, c3⟩ := x2
  have hB2 := hB1.trans (hb1.mono hB1.size)
  clear hb1 x1 hB1
  go_wp2_with fail
  with_reducible refine (HCT.out _ hB2).mono ?_
  rintro e w2 ⟨rfl, hb2⟩
  have hs2 := hb2.size
  obtain ⟨d0, d1, d2, d3⟩ := Box2.below ⟨c0, c1, c2, c3⟩ hb2 (by omega)
  have hB3 := hB2.trans (hb2.mono hB2.size)
  clear hb2 hB2 c0 c1 c2 c3
  go_wp2_with fail
  with_reducible refine (HCR.out _ hB3).mono ?_
  rintro e w3 ⟨rfl, hb3⟩
  have hs3 := hb3.size
  have hB4 := hB3.trans (hb3.mono hB3.size)
  clear hb3 hB3 d0 d1 d2 d3
  go_wp2_with fail
  with_reducible refine (HCP.out _ hB4).mono ?_
  rintro e w4 ⟨rfl, hb4⟩
  have hs4 := hb4.size
  have hB5 := (hB4.trans (hb4.mono hB4.size)).alloc (by omega) (.cells #[.string pb, .int .u8 pm] 31)
  have y1 : (w4.alloc (.cells #[.string pb, .int .u8 pm] 31)).heap[w4.heap.size]? = some (.cells #[.string pb, .int .u8 pm] 31 (0, 0)) := World.alloc_heap_new _ _
  clear hb4 hB4
  go_wp2_with fail
  with_reducible refine (HCQ.out _ hB5).mono ?_
  rintro e w5 ⟨rfl, hb5⟩
  have hs5 := hb5.size
  simp only [World.size_alloc] at hs5
  have hB6 := (hB5.trans (hb5.mono hB5.size)).alloc (by omega) (.cells #[.string pb, .int .u8 pm] 31)
  have y2 : (w5.alloc (.cells #[.string pb, .int .u8 pm] 31)).heap[w5.heap.size]? = some (.cells #[.string pb, .int .u8 pm] 31 (0, 0)) := World.alloc_heap_new _ _
  have y3 : (w5.alloc (.cells #[.string pb, .int .u8 pm] 31)).heap[w4.heap.size]? = some (.cells #[.string pb, .int .u8 pm] 31 (0, 0)) := by
    rw [Below.heap_alloc _ _ _ (by omega), hb5.block _ (by simp)]
    exact y1
  clear hb5 hB5 y1
  go_wp2_with fail
  with_reducible refine (HCC.out _ hB6).mono ?_
  rintro e w6 ⟨A6, k6, rfl, hown6, hb6⟩
  have hs6 := hb6.size
  simp only [World.size_alloc] at hs6
  have hB7 := hB6.trans (hb6.mono hB6.size)
  have y4 := (hb6.block w5.heap.size (by rw [World.size_alloc]; omega)).trans y2
  have y5 := (hb6.block w4.heap.size (by rw [World.size_alloc]; omega)).trans y3
  clear hb6 hB6 y2 y3
  go_wp2_with fail
  with_reducible refine (HCD.out _ hB7).mono ?_
  rintro e w7 ⟨A7, k7, rfl, hown7, hb7⟩
  have hs7 := hb7.size
  have hB8 := hB7.trans (hb7.mono hB7.size)
  have y6 := (hb7.block _ (by omega)).trans y4
  have y7 := (hb7.block _ (by omega)).trans y5
  have hownc := own_below' hown6 hb7
  have hap : ∀ k, (Value.slice A7 Zn k7).ownBlock = some k → (Value.slice A6 Zn k6).ownBlock ≠ some k := fun k h1 h2 => by
    have := (hown7.lt k h1).1
    have := (hown6.lt k h2).2
    omega
  clear hb7 hB7 y4 y5 hown6
  have CS := Same_any w7.heap.size A6 A7 k6 k7 Zl Zl w7 (At.of_own hownc) (At.of_own hown7) (Nat.le_refl _) (by rw [HZN.out]; exact hlen2) (by rw [HZN.out]; exact hlen2)
  rw [HZN.out, decide_eq_true rfl] at CS
  have z0 := blk_cell y6 0
  have z1 := blk_cell y6 1
  have z2 := blk_cell y7 0
  have z3 := blk_cell y7 1
  have HAP := hid hap
  clear y6 y7 hap
  go_wp2_with fail
  with_reducible refine CS.mono ?_
  rintro e w8 ⟨rfl, hb8⟩
  have hs8 := hb8.size
  have hB9 := hB8.trans (hb8.mono hB8.size)
  have hownc2 := own_below' hownc hb8
  have hown72 := own_below' hown7 hb8
  clear CS z0 z1 z2 z3 hb8 hB8 hownc hown7
  have SP := spoil_any _ A6 k6 Zl w8 (by rw [HZN.out]; exact hownc2) (by rw [World.size_alloc]; omega) (by rw [HZN.out]; omega)
  rw [HZN.out] at SP
  go_wp2_with fail
  with_reducible refine SP.mono ?_
  rintro e w9 ⟨rfl, hg9⟩
  have hs9 := hg9.size
  have hown9 := own_apart hown72 hg9 (fun k h1 => HAP.out k h1)
  have hB10 : Below w.heap.size w w9 := hB9.grown hg9 hB9.size (fun k hk => by have h := (hownc2.lt k hk).1; rw [World.size_alloc] at h; omega)
  clear SP hg9 hownc2 hown72 hB9
  go_wp2_with fail
  with_reducible refine (HCC.out _ hB10).mono ?_
  rintro e w10 ⟨A10, k10, rfl, hown10, hb10⟩
  have hB11 := hB10.trans (hb10.mono hB10.size)
  have hown11 := own_below' hown9 hb10
  clear hb10 hB10 hown9
  have CS := Same_any w10.heap.size A10 A7 k10 k7 Zl Zl w10 (At.of_own hown10) (At.of_own hown11) (Nat.le_refl _) (by rw [HZN.out]; exact hlen2) (by rw [HZN.out]; exact hlen2)
  rw [HZN.out, decide_eq_true rfl] at CS
  clear hown10 hown11
  go_wp2_with fail
  with_reducible refine CS.mono ?_
  rintro e w12 ⟨rfl, hb12⟩
  go_wp2
  go_ret
  exact ⟨rfl, hB11.trans (hb12.mono hB11.size)⟩
end Go.Proofs.YtddigbhijfpmkaaDoor
