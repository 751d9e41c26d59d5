/- Layer 11: the law GridNames. Printed by gen_names.py. -/
import Derived.Test.YtjippgflempdmaaMgGrF
namespace Go.Proofs.Ytjippgflempdmaa
set_option linter.unusedVariables false
set_option linter.unusedSimpArgs false
set_option maxRecDepth 100000
open Go.RowKit
attribute [local go_sem] max_fold min_fold

theorem ones_at {S : List Int} (h : ∀ i, wideP 64 S i = 1) : ∀ i, nxtP 64 S (i + 1) = (((i % 64 : Nat) : Int) + 1, i / 64) := by
  intro i
  induction i with
  | zero =>
    show (if 64 < (0 : Int) + wideP 64 S 0 then (wideP 64 S 0, 0 + 1) else ((0 : Int) + wideP 64 S 0, 0)) = _
    rw [h 0]
    rfl
  | succ i ih =>
    show (if 64 < (nxtP 64 S (i + 1)).1 + wideP 64 S (i + 1) then (wideP 64 S (i + 1), (nxtP 64 S (i + 1)).2 + 1) else ((nxtP 64 S (i + 1)).1 + wideP 64 S (i + 1), (nxtP 64 S (i + 1)).2)) = _
    rw [ih, h (i + 1)]
    simp only
    by_cases e : (64 : Int) < ((i % 64 : Nat) : Int) + 1 + 1
    · rw [if_pos e]
      refine Prod.ext ?_ ?_
      · show (1 : Int) = (((i + 1) % 64 : Nat) : Int) + 1
        omega
      · show i / 64 + 1 = (i + 1) / 64
        omega
    · rw [if_neg e]
      refine Prod.ext ?_ ?_
      · show ((i % 64 : Nat) : Int) + 1 + 1 = (((i + 1) % 64 : Nat) : Int) + 1
        omega
      · show i / 64 = (i + 1) / 64
        omega
def zeros (n : Nat) : List Int := List.replicate n 0
theorem zeros_wide (n i : Nat) : wideP 64 (zeros n) i = 1 := by
  have : (zeros n).getD i 0 = 0 := by
    unfold zeros
    by_cases h : i < n
    · simp [List.getD, h]
    · simp [List.getD, h]
  unfold wideP
  rw [this]
  rfl
theorem zeros_last : (cellsL (zeros 1024) 64).length = 1024 ∧ (cellsL (zeros 1024) 64)[1023]? = some ⟨63, 15⟩ := by
  have he : cellE (zeros 1024) 64 = 0 := by decide +kernel
  have hl : (zeros 1024).length = 1024 := by simp [zeros]
  unfold cellsL
  rw [if_pos he, hl, show max (64 : Int) 1 = 64 from rfl]
  refine ⟨ptsL_len _ _ _, ?_⟩
  have h := ones_at (zeros_wide 1024) 1023
  rw [nxt_succ, zeros_wide] at h
  have h1 := congrArg Prod.fst h
  have h2 := congrArg Prod.snd h
  simp only at h1 h2
  have e1 : colP 64 (zeros 1024) 1023 = 63 := by omega
  have e2 : rowP 64 (zeros 1024) 1023 = 15 := by omega
  simp [ptsL, e1, e2]
theorem wid_big : (widR [64, 63] [16384, 0] 64 16384).length = 64 ∧ (widR [64, 63] [16384, 0] 64 16384).getD 63 0 = 0 := by decide +kernel
theorem zeros_cells (n : Nat) : madeCells #[Value.int .i64 0] n = (ints (zeros n)).toArray := by
  have h : (madeCells #[Value.int .i64 0] n).toList = ints (zeros n) := by
    unfold zeros ints
    rw [toList_madeCells_one]
    simp
  rw [← h]

set_option maxRecDepth 100000 in
set_option maxHeartbeats 4000000 in
theorem walkGridNames (w : World) : Calls Try.prog 3 #[] w fun e w' => e = .returned (.bool true) ∧ Below w.heap.size w w' := by
  go_enter Try.func3, Try.ntmps3
  have b0 := Below.refl w.heap.size w
  go_wp2_with fail
  refine (alive_any _).mono ?_
  rintro e w1 ⟨rfl, h1⟩
  have c1 := b0.trans (h1.mono b0.size)
  clear b0 h1
  have hmk : (Instr.makeSlice 23 (.int .i64 1025) (.int .i64 1025)).run Try.prog w1 = .ok (.slice (some ⟨w1.heap.size, 0, none⟩) 1025 1025) (w1.alloc (.cells (madeCells #[.int .i64 0] 1025) 3)) := make_int 1025 (by omega) w1
  obtain ⟨w2, hw2⟩ : ∃ w2, w1.alloc (.cells (madeCells #[.int .i64 0] 1025) 3) = w2 := ⟨_, rfl⟩
  have h2 : Below w1.heap.size w1 w2 := hw2 ▸ (Below.refl _ _).alloc (Nat.le_refl _) _
  have al : At w2.heap.size w2 (some ⟨w1.heap.size, 0, none⟩) (ints (zeros 1025)) := At.block (t := 3) (by rw [← hw2, ← zeros_cells]; exact alloc_at _ _)
  have am : At w2.heap.size w2 (some ⟨w1.heap.size, 0, none⟩) (ints (zeros 1024)) := by have := al.take 1024; rwa [show (ints (zeros 1025)).take 1024 = ints (zeros 1024) by simp [ints, zeros]] at this
  have c2 := c1.trans (h2.mono c1.size)
  clear c1 h2
  rw [hw2] at hmk
  obtain ⟨qz, hqz⟩ : ∃ q, w1.heap.size = q := ⟨_, rfl⟩
  rw [hqz] at hmk al am
  have hzl := zeros_last
  have hz9 : At 0 w2 none (ints []) := fun h => absurd h (by simp [ints])
  go_wp2_with fail
  refine (Cells_lit (S := zeros 1024) (k := 1024) (r := cellsL (zeros 1024) 64) (e := 0) (m := 1024) 64 rfl (by decide +kernel) (by simp [zeros]) hzl.1 am (by decide)).mono ?_
  rintro e w3 ⟨A3, d3, rfl, x3, h3⟩
  replace al := al.on9 h3
  replace am := am.on9 h3
  have c3 := c2.trans (h3.mono c2.size)
  clear c2 h3
  clear hmk
  clear am
  go_wp2_with fail
  refine (Cells_lit (S := zeros 1025) (k := 1025) (r := []) (e := 4) (m := 0) 64 (by decide +kernel) (by decide +kernel) (by simp [zeros]) rfl al (by decide)).mono ?_
  rintro e w4 ⟨_, _, rfl, _, h4⟩
  replace al := al.on9 h4
  replace x3 := x3.on9 h4
  have c4 := c3.trans (h4.mono c3.size)
  clear c3 h4
  have h5 : Below w4.heap.size w4 (w4.alloc (.cells #[.int .i64 64] 3)) := (Below.refl _ _).alloc (Nat.le_refl _) _
  have a0 : At (w4.alloc (.cells #[.int .i64 64] 3)).heap.size (w4.alloc (.cells #[.int .i64 64] 3)) (some ⟨w4.heap.size, 0, none⟩) (ints [64]) := At.new9e w4 (ints [64]) 3 _ (by simp)
  replace al := al.on9 h5
  replace x3 := x3.on9 h5
  have c5 := c4.trans (h5.mono c4.size)
  clear c4 h5
  go_wp2_with fail
  refine (Cells_lit (S := [64]) (r := [⟨0, 0⟩]) (e := 0) (m := 1) 64 (by decide +kernel) (by decide +kernel) rfl rfl a0 (by decide)).mono ?_
  rintro e w6 ⟨_, _, rfl, _, h6⟩
  replace al := al.on9 h6
  replace x3 := x3.on9 h6
  replace a0 := a0.on9 h6
  have c6 := c5.trans (h6.mono c5.size)
  clear c5 h6
  clear a0
  have h7 : Below w6.heap.size w6 (w6.alloc (.cells #[.int .i64 65] 3)) := (Below.refl _ _).alloc (Nat.le_refl _) _
  have a0 : At (w6.alloc (.cells #[.int .i64 65] 3)).heap.size (w6.alloc (.cells #[.int .i64 65] 3)) (some ⟨w6.heap.size, 0, none⟩) (ints [65]) := At.new9e w6 (ints [65]) 3 _ (by simp)
  replace al := al.on9 h7
  replace x3 := x3.on9 h7
  have c7 := c6.trans (h7.mono c6.size)
  clear c6 h7
  go_wp2_with fail
  refine (Cells_lit (S := [65]) (r := []) (e := 2) (m := 0) 64 (by decide +kernel) (by decide +kernel) rfl rfl a0 (by decide)).mono ?_
  rintro e w8 ⟨_, _, rfl, _, h8⟩
  replace al := al.on9 h8
  replace x3 := x3.on9 h8
  replace a0 := a0.on9 h8
  have c8 := c7.trans (h8.mono c7.size)
  clear c7 h8
  clear a0
  go_wp2_with fail
  refine (Cells_lit (S := []) (r := []) (e := 2) (m := 0) 65 (by decide +kernel) (by decide +kernel) rfl rfl (at_none _) (by decide)).mono ?_
  rintro e w9 ⟨_, _, rfl, _, h9⟩
  replace al := al.on9 h9
  replace x3 := x3.on9 h9
  have c9 := c8.trans (h9.mono c8.size)
  clear c8 h9
  go_wp2_with fail
  refine (Widths_lit (S := []) (D := zeros 1025) (k2 := 1025) (r := []) (e := 4) (m := 0) 1 0 (by decide +kernel) (by decide +kernel) rfl (by simp [zeros]) rfl (at_none _) al (by decide) (by decide)).mono ?_
  rintro e w10 ⟨_, _, rfl, _, h10⟩
  replace al := al.on9 h10
  replace x3 := x3.on9 h10
  have c10 := c9.trans (h10.mono c9.size)
  clear c9 h10
  clear al
  have h11 : Below w10.heap.size w10 (w10.alloc (.cells #[.int .i64 1] 3)) := (Below.refl _ _).alloc (Nat.le_refl _) _
  have a0 : At (w10.alloc (.cells #[.int .i64 1] 3)).heap.size (w10.alloc (.cells #[.int .i64 1] 3)) (some ⟨w10.heap.size, 0, none⟩) (ints [1]) := At.new9e w10 (ints [1]) 3 _ (by simp)
  replace x3 := x3.on9 h11
  have c11 := c10.trans (h11.mono c10.size)
  clear c10 h11
  go_wp2_with fail
  refine (Widths_lit (S := [1]) (D := []) (r := []) (e := 110) (m := 0) 1 16384 (by decide +kernel) (by decide +kernel) rfl rfl rfl a0 (at_none _) (by decide) (by decide)).mono ?_
  rintro e w12 ⟨_, _, rfl, _, h12⟩
  replace x3 := x3.on9 h12
  replace a0 := a0.on9 h12
  have c12 := c11.trans (h12.mono c11.size)
  clear c11 h12
  clear a0
  have h13 : Below w12.heap.size w12 (w12.alloc (.cells #[.int .i64 1] 3)) := (Below.refl _ _).alloc (Nat.le_refl _) _
  have a0 : At (w12.alloc (.cells #[.int .i64 1] 3)).heap.size (w12.alloc (.cells #[.int .i64 1] 3)) (some ⟨w12.heap.size, 0, none⟩) (ints [1]) := At.new9e w12 (ints [1]) 3 _ (by simp)
  replace x3 := x3.on9 h13
  have c13 := c12.trans (h13.mono c12.size)
  clear c12 h13
  go_wp2_with fail
  refine (Widths_lit (S := [1]) (D := []) (r := []) (e := 2) (m := 0) 1 16385 (by decide +kernel) (by decide +kernel) rfl rfl rfl a0 (at_none _) (by decide) (by decide)).mono ?_
  rintro e w14 ⟨_, _, rfl, _, h14⟩
  replace x3 := x3.on9 h14
  replace a0 := a0.on9 h14
  have c14 := c13.trans (h14.mono c13.size)
  clear c13 h14
  clear a0
  have h15 : Below w14.heap.size w14 (w14.alloc (.cells #[.int .i64 64, .int .i64 63] 3)) := (Below.refl _ _).alloc (Nat.le_refl _) _
  have a0 : At (w14.alloc (.cells #[.int .i64 64, .int .i64 63] 3)).heap.size (w14.alloc (.cells #[.int .i64 64, .int .i64 63] 3)) (some ⟨w14.heap.size, 0, none⟩) (ints [64, 63]) := At.new9e w14 (ints [64, 63]) 3 _ (by simp)
  replace x3 := x3.on9 h15
  have c15 := c14.trans (h15.mono c14.size)
  clear c14 h15
  have h16 : Below (w14.alloc (.cells #[.int .i64 64, .int .i64 63] 3)).heap.size (w14.alloc (.cells #[.int .i64 64, .int .i64 63] 3)) ((w14.alloc (.cells #[.int .i64 64, .int .i64 63] 3)).alloc (.cells #[.int .i64 16384, .int .i64 0] 3)) := (Below.refl _ _).alloc (Nat.le_refl _) _
  have a1 : At ((w14.alloc (.cells #[.int .i64 64, .int .i64 63] 3)).alloc (.cells #[.int .i64 16384, .int .i64 0] 3)).heap.size ((w14.alloc (.cells #[.int .i64 64, .int .i64 63] 3)).alloc (.cells #[.int .i64 16384, .int .i64 0] 3)) (some ⟨w14.heap.size + 1, 0, none⟩) (ints [16384, 0]) := At.new9e (w14.alloc (.cells #[.int .i64 64, .int .i64 63] 3)) (ints [16384, 0]) 3 _ (by simp)
  replace x3 := x3.on9 h16
  replace a0 := a0.on9 h16
  have c16 := c15.trans (h16.mono c15.size)
  clear c15 h16
  go_wp2_with fail
  refine (Widths_lit (S := [64, 63]) (D := [16384, 0]) (r := widR [64, 63] [16384, 0] 64 16384) (e := 0) (m := 64) 64 16384 rfl (by decide +kernel) rfl rfl wid_big.1 a0 a1 (by decide) (by decide)).mono ?_
  rintro e w17 ⟨A19, d19, rfl, x19, h17⟩
  replace x3 := x3.on9 h17
  replace a0 := a0.on9 h17
  replace a1 := a1.on9 h17
  have c17 := c16.trans (h17.mono c16.size)
  clear c16 h17
  clear a0 a1
  have h18 : Below w17.heap.size w17 (w17.alloc (.cells #[.int .i64 1, .int .i64 1] 3)) := (Below.refl _ _).alloc (Nat.le_refl _) _
  have a0 : At (w17.alloc (.cells #[.int .i64 1, .int .i64 1] 3)).heap.size (w17.alloc (.cells #[.int .i64 1, .int .i64 1] 3)) (some ⟨w17.heap.size, 0, none⟩) (ints [1, 1]) := At.new9e w17 (ints [1, 1]) 3 _ (by simp)
  replace x3 := x3.on9 h18
  replace x19 := x19.on9 h18
  have c18 := c17.trans (h18.mono c17.size)
  clear c17 h18
  have h19 : Below (w17.alloc (.cells #[.int .i64 1, .int .i64 1] 3)).heap.size (w17.alloc (.cells #[.int .i64 1, .int .i64 1] 3)) ((w17.alloc (.cells #[.int .i64 1, .int .i64 1] 3)).alloc (.cells #[.int .i64 8192, .int .i64 1, .int .i64 8192, .int .i64 16384] 31)) := (Below.refl _ _).alloc (Nat.le_refl _) _
  have a1 : At ((w17.alloc (.cells #[.int .i64 1, .int .i64 1] 3)).alloc (.cells #[.int .i64 8192, .int .i64 1, .int .i64 8192, .int .i64 16384] 31)).heap.size ((w17.alloc (.cells #[.int .i64 1, .int .i64 1] 3)).alloc (.cells #[.int .i64 8192, .int .i64 1, .int .i64 8192, .int .i64 16384] 31)) (some ⟨w17.heap.size + 1, 0, none⟩) (t2s [⟨8192, 1⟩, ⟨8192, 16384⟩]) := At.new9e (w17.alloc (.cells #[.int .i64 1, .int .i64 1] 3)) (t2s [⟨8192, 1⟩, ⟨8192, 16384⟩]) 31 _ (by simp)
  replace x3 := x3.on9 h19
  replace x19 := x19.on9 h19
  replace a0 := a0.on9 h19
  have c19 := c18.trans (h19.mono c18.size)
  clear c18 h19
  go_wp2_with fail
  refine (Need_lit (S := [1, 1]) (L := [⟨8192, 1⟩, ⟨8192, 16384⟩]) (r := ⟨16384, 16384⟩) (e := 0) 2 0 (by decide +kernel) (by decide +kernel) rfl rfl a0 a1 (by decide) (by decide)).mono ?_
  rintro e w20 ⟨rfl, h20⟩
  replace x3 := x3.on9 h20
  replace x19 := x19.on9 h20
  replace a0 := a0.on9 h20
  replace a1 := a1.on9 h20
  have c20 := c19.trans (h20.mono c19.size)
  clear c19 h20
  clear a0 a1
  have h21 : Below w20.heap.size w20 (w20.alloc (.cells #[.int .i64 16384, .int .i64 16384] 31)) := (Below.refl _ _).alloc (Nat.le_refl _) _
  have a21 : At (w20.alloc (.cells #[.int .i64 16384, .int .i64 16384] 31)).heap.size (w20.alloc (.cells #[.int .i64 16384, .int .i64 16384] 31)) (some ⟨w20.heap.size, 0, none⟩) ([.int .i64 16384, .int .i64 16384]) := At.new9e w20 ([.int .i64 16384, .int .i64 16384]) 31 _ (by simp)
  replace x3 := x3.on9 h21
  replace x19 := x19.on9 h21
  have c21 := c20.trans (h21.mono c20.size)
  clear c20 h21
  have h22 : Below (w20.alloc (.cells #[.int .i64 16384, .int .i64 16384] 31)).heap.size (w20.alloc (.cells #[.int .i64 16384, .int .i64 16384] 31)) ((w20.alloc (.cells #[.int .i64 16384, .int .i64 16384] 31)).alloc (.cells #[.int .i64 1, .int .i64 1] 3)) := (Below.refl _ _).alloc (Nat.le_refl _) _
  have a0 : At ((w20.alloc (.cells #[.int .i64 16384, .int .i64 16384] 31)).alloc (.cells #[.int .i64 1, .int .i64 1] 3)).heap.size ((w20.alloc (.cells #[.int .i64 16384, .int .i64 16384] 31)).alloc (.cells #[.int .i64 1, .int .i64 1] 3)) (some ⟨w20.heap.size + 1, 0, none⟩) (ints [1, 1]) := At.new9e (w20.alloc (.cells #[.int .i64 16384, .int .i64 16384] 31)) (ints [1, 1]) 3 _ (by simp)
  replace x3 := x3.on9 h22
  replace x19 := x19.on9 h22
  replace a21 := a21.on9 h22
  have c22 := c21.trans (h22.mono c21.size)
  clear c21 h22
  have h23 : Below ((w20.alloc (.cells #[.int .i64 16384, .int .i64 16384] 31)).alloc (.cells #[.int .i64 1, .int .i64 1] 3)).heap.size ((w20.alloc (.cells #[.int .i64 16384, .int .i64 16384] 31)).alloc (.cells #[.int .i64 1, .int .i64 1] 3)) (((w20.alloc (.cells #[.int .i64 16384, .int .i64 16384] 31)).alloc (.cells #[.int .i64 1, .int .i64 1] 3)).alloc (.cells #[.int .i64 8192, .int .i64 0, .int .i64 8192, .int .i64 0] 31)) := (Below.refl _ _).alloc (Nat.le_refl _) _
  have a1 : At (((w20.alloc (.cells #[.int .i64 16384, .int .i64 16384] 31)).alloc (.cells #[.int .i64 1, .int .i64 1] 3)).alloc (.cells #[.int .i64 8192, .int .i64 0, .int .i64 8192, .int .i64 0] 31)).heap.size (((w20.alloc (.cells #[.int .i64 16384, .int .i64 16384] 31)).alloc (.cells #[.int .i64 1, .int .i64 1] 3)).alloc (.cells #[.int .i64 8192, .int .i64 0, .int .i64 8192, .int .i64 0] 31)) (some ⟨w20.heap.size + 1 + 1, 0, none⟩) (t2s [⟨8192, 0⟩, ⟨8192, 0⟩]) := At.new9e ((w20.alloc (.cells #[.int .i64 16384, .int .i64 16384] 31)).alloc (.cells #[.int .i64 1, .int .i64 1] 3)) (t2s [⟨8192, 0⟩, ⟨8192, 0⟩]) 31 _ (by simp)
  replace x3 := x3.on9 h23
  replace x19 := x19.on9 h23
  replace a21 := a21.on9 h23
  replace a0 := a0.on9 h23
  have c23 := c22.trans (h23.mono c22.size)
  clear c22 h23
  go_wp2_with fail
  refine (Need_lit (S := [1, 1]) (L := [⟨8192, 0⟩, ⟨8192, 0⟩]) (r := ⟨0, 0⟩) (e := 9) 2 1 (by decide +kernel) (by decide +kernel) rfl rfl a0 a1 (by decide) (by decide)).mono ?_
  rintro e w24 ⟨rfl, h24⟩
  replace x3 := x3.on9 h24
  replace x19 := x19.on9 h24
  replace a21 := a21.on9 h24
  replace a0 := a0.on9 h24
  replace a1 := a1.on9 h24
  have c24 := c23.trans (h24.mono c23.size)
  clear c23 h24
  clear a0 a1
  have h25 : Below w24.heap.size w24 (w24.alloc (.cells #[.int .i64 0, .int .i64 0] 31)) := (Below.refl _ _).alloc (Nat.le_refl _) _
  have a23 : At (w24.alloc (.cells #[.int .i64 0, .int .i64 0] 31)).heap.size (w24.alloc (.cells #[.int .i64 0, .int .i64 0] 31)) (some ⟨w24.heap.size, 0, none⟩) ([.int .i64 0, .int .i64 0]) := At.new9e w24 ([.int .i64 0, .int .i64 0]) 31 _ (by simp)
  replace x3 := x3.on9 h25
  replace x19 := x19.on9 h25
  replace a21 := a21.on9 h25
  have c25 := c24.trans (h25.mono c24.size)
  clear c24 h25
  clear a23
  have h26 : Below (w24.alloc (.cells #[.int .i64 0, .int .i64 0] 31)).heap.size (w24.alloc (.cells #[.int .i64 0, .int .i64 0] 31)) ((w24.alloc (.cells #[.int .i64 0, .int .i64 0] 31)).alloc (.cells #[.int .i64 1, .int .i64 1] 31)) := (Below.refl _ _).alloc (Nat.le_refl _) _
  have one : At ((w24.alloc (.cells #[.int .i64 0, .int .i64 0] 31)).alloc (.cells #[.int .i64 1, .int .i64 1] 31)).heap.size ((w24.alloc (.cells #[.int .i64 0, .int .i64 0] 31)).alloc (.cells #[.int .i64 1, .int .i64 1] 31)) (some ⟨w24.heap.size + 1, 0, none⟩) (t2s [⟨1, 1⟩]) := At.new9e (w24.alloc (.cells #[.int .i64 0, .int .i64 0] 31)) (t2s [⟨1, 1⟩]) 31 _ (by simp)
  replace x3 := x3.on9 h26
  replace x19 := x19.on9 h26
  replace a21 := a21.on9 h26
  have c26 := c25.trans (h26.mono c25.size)
  clear c25 h26
  have h27 : Below ((w24.alloc (.cells #[.int .i64 0, .int .i64 0] 31)).alloc (.cells #[.int .i64 1, .int .i64 1] 31)).heap.size ((w24.alloc (.cells #[.int .i64 0, .int .i64 0] 31)).alloc (.cells #[.int .i64 1, .int .i64 1] 31)) (((w24.alloc (.cells #[.int .i64 0, .int .i64 0] 31)).alloc (.cells #[.int .i64 1, .int .i64 1] 31)).alloc (.cells #[.int .i64 (-1)] 3)) := (Below.refl _ _).alloc (Nat.le_refl _) _
  have a0 : At (((w24.alloc (.cells #[.int .i64 0, .int .i64 0] 31)).alloc (.cells #[.int .i64 1, .int .i64 1] 31)).alloc (.cells #[.int .i64 (-1)] 3)).heap.size (((w24.alloc (.cells #[.int .i64 0, .int .i64 0] 31)).alloc (.cells #[.int .i64 1, .int .i64 1] 31)).alloc (.cells #[.int .i64 (-1)] 3)) (some ⟨w24.heap.size + 1 + 1, 0, none⟩) (ints [-1]) := At.new9e ((w24.alloc (.cells #[.int .i64 0, .int .i64 0] 31)).alloc (.cells #[.int .i64 1, .int .i64 1] 31)) (ints [-1]) 3 _ (by simp)
  replace x3 := x3.on9 h27
  replace x19 := x19.on9 h27
  replace a21 := a21.on9 h27
  replace one := one.on9 h27
  have c27 := c26.trans (h27.mono c26.size)
  clear c26 h27
  go_wp2_with fail
  refine (Cells_lit (S := [-1]) (r := []) (e := 2) (m := 0) 1 (by decide +kernel) (by decide +kernel) rfl rfl a0 (by decide)).mono ?_
  rintro e w28 ⟨_, _, rfl, _, h28⟩
  replace x3 := x3.on9 h28
  replace x19 := x19.on9 h28
  replace a21 := a21.on9 h28
  replace one := one.on9 h28
  replace a0 := a0.on9 h28
  have c28 := c27.trans (h28.mono c27.size)
  clear c27 h28
  clear a0
  have h29 : Below w28.heap.size w28 (w28.alloc (.cells #[.int .i64 1] 3)) := (Below.refl _ _).alloc (Nat.le_refl _) _
  have a0 : At (w28.alloc (.cells #[.int .i64 1] 3)).heap.size (w28.alloc (.cells #[.int .i64 1] 3)) (some ⟨w28.heap.size, 0, none⟩) (ints [1]) := At.new9e w28 (ints [1]) 3 _ (by simp)
  replace x3 := x3.on9 h29
  replace x19 := x19.on9 h29
  replace a21 := a21.on9 h29
  replace one := one.on9 h29
  have c29 := c28.trans (h29.mono c28.size)
  clear c28 h29
  go_wp2_with fail
  refine (Cells_lit (S := [1]) (r := []) (e := 2) (m := 0) (-1) (by decide +kernel) (by decide +kernel) rfl rfl a0 (by decide)).mono ?_
  rintro e w30 ⟨_, _, rfl, _, h30⟩
  replace x3 := x3.on9 h30
  replace x19 := x19.on9 h30
  replace a21 := a21.on9 h30
  replace one := one.on9 h30
  replace a0 := a0.on9 h30
  have c30 := c29.trans (h30.mono c29.size)
  clear c29 h30
  clear a0
  have h31 : Below w30.heap.size w30 (w30.alloc (.cells #[.int .i64 1] 3)) := (Below.refl _ _).alloc (Nat.le_refl _) _
  have a0 : At (w30.alloc (.cells #[.int .i64 1] 3)).heap.size (w30.alloc (.cells #[.int .i64 1] 3)) (some ⟨w30.heap.size, 0, none⟩) (ints [1]) := At.new9e w30 (ints [1]) 3 _ (by simp)
  replace x3 := x3.on9 h31
  replace x19 := x19.on9 h31
  replace a21 := a21.on9 h31
  replace one := one.on9 h31
  have c31 := c30.trans (h31.mono c30.size)
  clear c30 h31
  have h32 : Below (w30.alloc (.cells #[.int .i64 1] 3)).heap.size (w30.alloc (.cells #[.int .i64 1] 3)) ((w30.alloc (.cells #[.int .i64 1] 3)).alloc (.cells #[.int .i64 (-1)] 3)) := (Below.refl _ _).alloc (Nat.le_refl _) _
  have a1 : At ((w30.alloc (.cells #[.int .i64 1] 3)).alloc (.cells #[.int .i64 (-1)] 3)).heap.size ((w30.alloc (.cells #[.int .i64 1] 3)).alloc (.cells #[.int .i64 (-1)] 3)) (some ⟨w30.heap.size + 1, 0, none⟩) (ints [-1]) := At.new9e (w30.alloc (.cells #[.int .i64 1] 3)) (ints [-1]) 3 _ (by simp)
  replace x3 := x3.on9 h32
  replace x19 := x19.on9 h32
  replace a21 := a21.on9 h32
  replace one := one.on9 h32
  replace a0 := a0.on9 h32
  have c32 := c31.trans (h32.mono c31.size)
  clear c31 h32
  go_wp2_with fail
  refine (Widths_lit (S := [1]) (D := [-1]) (r := []) (e := 2) (m := 0) 1 0 (by decide +kernel) (by decide +kernel) rfl rfl rfl a0 a1 (by decide) (by decide)).mono ?_
  rintro e w33 ⟨_, _, rfl, _, h33⟩
  replace x3 := x3.on9 h33
  replace x19 := x19.on9 h33
  replace a21 := a21.on9 h33
  replace one := one.on9 h33
  replace a0 := a0.on9 h33
  replace a1 := a1.on9 h33
  have c33 := c32.trans (h33.mono c32.size)
  clear c32 h33
  clear a0 a1
  have h34 : Below w33.heap.size w33 (w33.alloc (.cells #[.int .i64 1] 3)) := (Below.refl _ _).alloc (Nat.le_refl _) _
  have a0 : At (w33.alloc (.cells #[.int .i64 1] 3)).heap.size (w33.alloc (.cells #[.int .i64 1] 3)) (some ⟨w33.heap.size, 0, none⟩) (ints [1]) := At.new9e w33 (ints [1]) 3 _ (by simp)
  replace x3 := x3.on9 h34
  replace x19 := x19.on9 h34
  replace a21 := a21.on9 h34
  replace one := one.on9 h34
  have c34 := c33.trans (h34.mono c33.size)
  clear c33 h34
  have h35 : Below (w33.alloc (.cells #[.int .i64 1] 3)).heap.size (w33.alloc (.cells #[.int .i64 1] 3)) ((w33.alloc (.cells #[.int .i64 1] 3)).alloc (.cells #[.int .i64 1] 3)) := (Below.refl _ _).alloc (Nat.le_refl _) _
  have a1 : At ((w33.alloc (.cells #[.int .i64 1] 3)).alloc (.cells #[.int .i64 1] 3)).heap.size ((w33.alloc (.cells #[.int .i64 1] 3)).alloc (.cells #[.int .i64 1] 3)) (some ⟨w33.heap.size + 1, 0, none⟩) (ints [1]) := At.new9e (w33.alloc (.cells #[.int .i64 1] 3)) (ints [1]) 3 _ (by simp)
  replace x3 := x3.on9 h35
  replace x19 := x19.on9 h35
  replace a21 := a21.on9 h35
  replace one := one.on9 h35
  replace a0 := a0.on9 h35
  have c35 := c34.trans (h35.mono c34.size)
  clear c34 h35
  go_wp2_with fail
  refine (Widths_lit (S := [1]) (D := [1]) (r := []) (e := 2) (m := 0) 1 (-1) (by decide +kernel) (by decide +kernel) rfl rfl rfl a0 a1 (by decide) (by decide)).mono ?_
  rintro e w36 ⟨_, _, rfl, _, h36⟩
  replace x3 := x3.on9 h36
  replace x19 := x19.on9 h36
  replace a21 := a21.on9 h36
  replace one := one.on9 h36
  replace a0 := a0.on9 h36
  replace a1 := a1.on9 h36
  have c36 := c35.trans (h36.mono c35.size)
  clear c35 h36
  clear a0 a1
  have h37 : Below w36.heap.size w36 (w36.alloc (.cells #[.int .i64 1] 3)) := (Below.refl _ _).alloc (Nat.le_refl _) _
  have a0 : At (w36.alloc (.cells #[.int .i64 1] 3)).heap.size (w36.alloc (.cells #[.int .i64 1] 3)) (some ⟨w36.heap.size, 0, none⟩) (ints [1]) := At.new9e w36 (ints [1]) 3 _ (by simp)
  replace x3 := x3.on9 h37
  replace x19 := x19.on9 h37
  replace a21 := a21.on9 h37
  replace one := one.on9 h37
  have c37 := c36.trans (h37.mono c36.size)
  clear c36 h37
  have h38 : Below (w36.alloc (.cells #[.int .i64 1] 3)).heap.size (w36.alloc (.cells #[.int .i64 1] 3)) ((w36.alloc (.cells #[.int .i64 1] 3)).alloc (.cells #[.int .i64 (-1)] 3)) := (Below.refl _ _).alloc (Nat.le_refl _) _
  have a1 : At ((w36.alloc (.cells #[.int .i64 1] 3)).alloc (.cells #[.int .i64 (-1)] 3)).heap.size ((w36.alloc (.cells #[.int .i64 1] 3)).alloc (.cells #[.int .i64 (-1)] 3)) (some ⟨w36.heap.size + 1, 0, none⟩) (ints [-1]) := At.new9e (w36.alloc (.cells #[.int .i64 1] 3)) (ints [-1]) 3 _ (by simp)
  replace x3 := x3.on9 h38
  replace x19 := x19.on9 h38
  replace a21 := a21.on9 h38
  replace one := one.on9 h38
  replace a0 := a0.on9 h38
  have c38 := c37.trans (h38.mono c37.size)
  clear c37 h38
  go_wp2_with fail
  refine (Heights_lit (S := [1]) (D := [-1]) (r := []) (e := 2) (m := 0) 1 (by decide +kernel) (by decide +kernel) rfl rfl rfl a0 a1 (by decide) (by decide)).mono ?_
  rintro e w39 ⟨_, _, rfl, _, h39⟩
  replace x3 := x3.on9 h39
  replace x19 := x19.on9 h39
  replace a21 := a21.on9 h39
  replace one := one.on9 h39
  replace a0 := a0.on9 h39
  replace a1 := a1.on9 h39
  have c39 := c38.trans (h39.mono c38.size)
  clear c38 h39
  clear a0 a1
  have h40 : Below w39.heap.size w39 (w39.alloc (.cells #[.int .i64 1] 3)) := (Below.refl _ _).alloc (Nat.le_refl _) _
  have a0 : At (w39.alloc (.cells #[.int .i64 1] 3)).heap.size (w39.alloc (.cells #[.int .i64 1] 3)) (some ⟨w39.heap.size, 0, none⟩) (ints [1]) := At.new9e w39 (ints [1]) 3 _ (by simp)
  replace x3 := x3.on9 h40
  replace x19 := x19.on9 h40
  replace a21 := a21.on9 h40
  replace one := one.on9 h40
  have c40 := c39.trans (h40.mono c39.size)
  clear c39 h40
  have h41 : Below (w39.alloc (.cells #[.int .i64 1] 3)).heap.size (w39.alloc (.cells #[.int .i64 1] 3)) ((w39.alloc (.cells #[.int .i64 1] 3)).alloc (.cells #[.int .i64 0, .int .i64 (-1)] 31)) := (Below.refl _ _).alloc (Nat.le_refl _) _
  have a1 : At ((w39.alloc (.cells #[.int .i64 1] 3)).alloc (.cells #[.int .i64 0, .int .i64 (-1)] 31)).heap.size ((w39.alloc (.cells #[.int .i64 1] 3)).alloc (.cells #[.int .i64 0, .int .i64 (-1)] 31)) (some ⟨w39.heap.size + 1, 0, none⟩) (t2s [⟨0, -1⟩]) := At.new9e (w39.alloc (.cells #[.int .i64 1] 3)) (t2s [⟨0, -1⟩]) 31 _ (by simp)
  replace x3 := x3.on9 h41
  replace x19 := x19.on9 h41
  replace a21 := a21.on9 h41
  replace one := one.on9 h41
  replace a0 := a0.on9 h41
  have c41 := c40.trans (h41.mono c40.size)
  clear c40 h41
  go_wp2_with fail
  refine (Need_lit (S := [1]) (L := [⟨0, -1⟩]) (r := ⟨0, 0⟩) (e := 2) 1 0 (by decide +kernel) (by decide +kernel) rfl rfl a0 a1 (by decide) (by decide)).mono ?_
  rintro e w42 ⟨rfl, h42⟩
  replace x3 := x3.on9 h42
  replace x19 := x19.on9 h42
  replace a21 := a21.on9 h42
  replace one := one.on9 h42
  replace a0 := a0.on9 h42
  replace a1 := a1.on9 h42
  have c42 := c41.trans (h42.mono c41.size)
  clear c41 h42
  clear a0 a1
  have h43 : Below w42.heap.size w42 (w42.alloc (.cells #[.int .i64 0, .int .i64 0] 31)) := (Below.refl _ _).alloc (Nat.le_refl _) _
  have a23 : At (w42.alloc (.cells #[.int .i64 0, .int .i64 0] 31)).heap.size (w42.alloc (.cells #[.int .i64 0, .int .i64 0] 31)) (some ⟨w42.heap.size, 0, none⟩) ([.int .i64 0, .int .i64 0]) := At.new9e w42 ([.int .i64 0, .int .i64 0]) 31 _ (by simp)
  replace x3 := x3.on9 h43
  replace x19 := x19.on9 h43
  replace a21 := a21.on9 h43
  replace one := one.on9 h43
  have c43 := c42.trans (h43.mono c42.size)
  clear c42 h43
  clear a23
  have h44 : Below (w42.alloc (.cells #[.int .i64 0, .int .i64 0] 31)).heap.size (w42.alloc (.cells #[.int .i64 0, .int .i64 0] 31)) ((w42.alloc (.cells #[.int .i64 0, .int .i64 0] 31)).alloc (.cells #[.int .i64 1] 3)) := (Below.refl _ _).alloc (Nat.le_refl _) _
  have a0 : At ((w42.alloc (.cells #[.int .i64 0, .int .i64 0] 31)).alloc (.cells #[.int .i64 1] 3)).heap.size ((w42.alloc (.cells #[.int .i64 0, .int .i64 0] 31)).alloc (.cells #[.int .i64 1] 3)) (some ⟨w42.heap.size + 1, 0, none⟩) (ints [1]) := At.new9e (w42.alloc (.cells #[.int .i64 0, .int .i64 0] 31)) (ints [1]) 3 _ (by simp)
  replace x3 := x3.on9 h44
  replace x19 := x19.on9 h44
  replace a21 := a21.on9 h44
  replace one := one.on9 h44
  have c44 := c43.trans (h44.mono c43.size)
  clear c43 h44
  have h45 : Below ((w42.alloc (.cells #[.int .i64 0, .int .i64 0] 31)).alloc (.cells #[.int .i64 1] 3)).heap.size ((w42.alloc (.cells #[.int .i64 0, .int .i64 0] 31)).alloc (.cells #[.int .i64 1] 3)) (((w42.alloc (.cells #[.int .i64 0, .int .i64 0] 31)).alloc (.cells #[.int .i64 1] 3)).alloc (.cells #[.int .i64 0, .int .i64 16385] 31)) := (Below.refl _ _).alloc (Nat.le_refl _) _
  have a1 : At (((w42.alloc (.cells #[.int .i64 0, .int .i64 0] 31)).alloc (.cells #[.int .i64 1] 3)).alloc (.cells #[.int .i64 0, .int .i64 16385] 31)).heap.size (((w42.alloc (.cells #[.int .i64 0, .int .i64 0] 31)).alloc (.cells #[.int .i64 1] 3)).alloc (.cells #[.int .i64 0, .int .i64 16385] 31)) (some ⟨w42.heap.size + 1 + 1, 0, none⟩) (t2s [⟨0, 16385⟩]) := At.new9e ((w42.alloc (.cells #[.int .i64 0, .int .i64 0] 31)).alloc (.cells #[.int .i64 1] 3)) (t2s [⟨0, 16385⟩]) 31 _ (by simp)
  replace x3 := x3.on9 h45
  replace x19 := x19.on9 h45
  replace a21 := a21.on9 h45
  replace one := one.on9 h45
  replace a0 := a0.on9 h45
  have c45 := c44.trans (h45.mono c44.size)
  clear c44 h45
  go_wp2_with fail
  refine (Need_lit (S := [1]) (L := [⟨0, 16385⟩]) (r := ⟨0, 0⟩) (e := 2) 1 0 (by decide +kernel) (by decide +kernel) rfl rfl a0 a1 (by decide) (by decide)).mono ?_
  rintro e w46 ⟨rfl, h46⟩
  replace x3 := x3.on9 h46
  replace x19 := x19.on9 h46
  replace a21 := a21.on9 h46
  replace one := one.on9 h46
  replace a0 := a0.on9 h46
  replace a1 := a1.on9 h46
  have c46 := c45.trans (h46.mono c45.size)
  clear c45 h46
  clear a0 a1
  have h47 : Below w46.heap.size w46 (w46.alloc (.cells #[.int .i64 0, .int .i64 0] 31)) := (Below.refl _ _).alloc (Nat.le_refl _) _
  have a23 : At (w46.alloc (.cells #[.int .i64 0, .int .i64 0] 31)).heap.size (w46.alloc (.cells #[.int .i64 0, .int .i64 0] 31)) (some ⟨w46.heap.size, 0, none⟩) ([.int .i64 0, .int .i64 0]) := At.new9e w46 ([.int .i64 0, .int .i64 0]) 31 _ (by simp)
  replace x3 := x3.on9 h47
  replace x19 := x19.on9 h47
  replace a21 := a21.on9 h47
  replace one := one.on9 h47
  have c47 := c46.trans (h47.mono c46.size)
  clear c46 h47
  clear a23
  go_wp2_with fail
  refine (Need_lit (S := []) (L := [⟨1, 1⟩]) (r := ⟨0, 0⟩) (e := 110) 1 0 (by decide +kernel) (by decide +kernel) rfl rfl (at_none _) one (by decide) (by decide)).mono ?_
  rintro e w48 ⟨rfl, h48⟩
  replace x3 := x3.on9 h48
  replace x19 := x19.on9 h48
  replace a21 := a21.on9 h48
  replace one := one.on9 h48
  have c48 := c47.trans (h48.mono c47.size)
  clear c47 h48
  have h49 : Below w48.heap.size w48 (w48.alloc (.cells #[.int .i64 0, .int .i64 0] 31)) := (Below.refl _ _).alloc (Nat.le_refl _) _
  have a23 : At (w48.alloc (.cells #[.int .i64 0, .int .i64 0] 31)).heap.size (w48.alloc (.cells #[.int .i64 0, .int .i64 0] 31)) (some ⟨w48.heap.size, 0, none⟩) ([.int .i64 0, .int .i64 0]) := At.new9e w48 ([.int .i64 0, .int .i64 0]) 31 _ (by simp)
  replace x3 := x3.on9 h49
  replace x19 := x19.on9 h49
  replace a21 := a21.on9 h49
  replace one := one.on9 h49
  have c49 := c48.trans (h49.mono c48.size)
  clear c48 h49
  clear a23
  have h50 : Below (w48.alloc (.cells #[.int .i64 0, .int .i64 0] 31)).heap.size (w48.alloc (.cells #[.int .i64 0, .int .i64 0] 31)) ((w48.alloc (.cells #[.int .i64 0, .int .i64 0] 31)).alloc (.cells #[.int .i64 1, .int .i64 1] 3)) := (Below.refl _ _).alloc (Nat.le_refl _) _
  have a0 : At ((w48.alloc (.cells #[.int .i64 0, .int .i64 0] 31)).alloc (.cells #[.int .i64 1, .int .i64 1] 3)).heap.size ((w48.alloc (.cells #[.int .i64 0, .int .i64 0] 31)).alloc (.cells #[.int .i64 1, .int .i64 1] 3)) (some ⟨w48.heap.size + 1, 0, none⟩) (ints [1, 1]) := At.new9e (w48.alloc (.cells #[.int .i64 0, .int .i64 0] 31)) (ints [1, 1]) 3 _ (by simp)
  replace x3 := x3.on9 h50
  replace x19 := x19.on9 h50
  replace a21 := a21.on9 h50
  replace one := one.on9 h50
  have c50 := c49.trans (h50.mono c49.size)
  clear c49 h50
  go_wp2_with fail
  refine (Need_lit (S := [1, 1]) (L := [⟨1, 1⟩]) (r := ⟨0, 0⟩) (e := 110) 1 0 (by decide +kernel) (by decide +kernel) rfl rfl a0 one (by decide) (by decide)).mono ?_
  rintro e w51 ⟨rfl, h51⟩
  replace x3 := x3.on9 h51
  replace x19 := x19.on9 h51
  replace a21 := a21.on9 h51
  replace one := one.on9 h51
  replace a0 := a0.on9 h51
  have c51 := c50.trans (h51.mono c50.size)
  clear c50 h51
  clear a0
  have h52 : Below w51.heap.size w51 (w51.alloc (.cells #[.int .i64 0, .int .i64 0] 31)) := (Below.refl _ _).alloc (Nat.le_refl _) _
  have a23 : At (w51.alloc (.cells #[.int .i64 0, .int .i64 0] 31)).heap.size (w51.alloc (.cells #[.int .i64 0, .int .i64 0] 31)) (some ⟨w51.heap.size, 0, none⟩) ([.int .i64 0, .int .i64 0]) := At.new9e w51 ([.int .i64 0, .int .i64 0]) 31 _ (by simp)
  replace x3 := x3.on9 h52
  replace x19 := x19.on9 h52
  replace a21 := a21.on9 h52
  replace one := one.on9 h52
  have c52 := c51.trans (h52.mono c51.size)
  clear c51 h52
  clear a23
  go_wp2_with fail
  refine (Rects_lit (S := []) (L := [⟨1, 1⟩]) (r := []) (e := 110) (m := 0) 1 0 0 0 0 0 (by decide +kernel) (by decide +kernel) rfl rfl rfl (at_none _) one (by decide) (by decide)).mono ?_
  rintro e w53 ⟨_, _, rfl, _, h53⟩
  replace x3 := x3.on9 h53
  replace x19 := x19.on9 h53
  replace a21 := a21.on9 h53
  replace one := one.on9 h53
  have c53 := c52.trans (h53.mono c52.size)
  clear c52 h53
  clear one
  obtain ⟨h1023, hq⟩ := List.getElem?_eq_some_iff.1 hzl.2
  obtain ⟨g3, o3, rfl, l3, u0, u1⟩ := x3.t2 h1023
  rw [hq] at u0 u1
  have u0' : w53.cell? ⟨g3, o3 + 2046, none⟩ = some (.int .i64 63) := u0
  have u1' : w53.cell? ⟨g3, o3 + 2047, none⟩ = some (.int .i64 15) := u1
  obtain ⟨g19, o19, rfl, l19, v0⟩ := x19.num (k := 63) (by rw [wid_big.1]; decide)
  rw [wid_big.2] at v0
  obtain ⟨l21, y0⟩ := a21.raw (j := 0) rfl
  obtain ⟨_, y1⟩ := a21.raw (j := 1) rfl
  have y0' : w53.cell? ⟨w20.heap.size, 0, none⟩ = some (.int .i64 16384) := y0
  have y1' : w53.cell? ⟨w20.heap.size, 1, none⟩ = some (.int .i64 16384) := y1
  clear x3 x19 a21 u0 u1 y0 y1 hq h1023 hzl
  go_wp2
  go_ret
  exact ⟨rfl, c53⟩
end Go.Proofs.Ytjippgflempdmaa
