/- Layer 3: awake: what the document's examples say. -/
import Derived.Test.YtoelmcmdiamnnaaDoorRuAw0
namespace Go.Proofs.YtoelmcmdiamnnaaDoor
set_option linter.unusedVariables false
set_option linter.unusedSimpArgs false
set_option maxRecDepth 100000
open Go.RowKit Go.Lib
set_option maxRecDepth 100000
theorem awk_cells (w : World) : Calls Tryd.prog 10 #[.string { data := #[97, 228, 184, 128] }] w fun e w' => e = .returned (.tuple #[.int .i64 3, .int .i64 2]) ∧ Below w.heap.size w w' := by
  have C := small (Cells_any { data := #[97, 228, 184, 128] } w (by decide)) (by decide)
  have h := aw_cells
  have h1 : total (pcs [97, 228, 184, 128]) = 3 := congrArg Prod.fst h
  have h2 : (pcs [97, 228, 184, 128]).length = 2 := congrArg Prod.snd h
  rw [h1, h2] at C
  exact C
theorem awk_cut (w : World) : Calls Tryd.prog 18 #[.string { data := #[119, 105, 110, 100, 111, 119] }, .int .i64 5, .string { data := #[46, 46] }] w fun e w' => e = .returned (.tuple #[.string { data := #[119, 105, 110, 46, 46] }, .bool true]) ∧ Below w.heap.size w w' := by
  have C := small2 (Cut_any { data := #[119, 105, 110, 100, 111, 119] } { data := #[46, 46] } 5 (by decide) w (by decide) (by decide)) (by decide) (by decide)
  rw [aw_cut] at C
  exact C
theorem awk_lines (w : World) (hT : TabsL w) : Calls Tryd.prog 20 #[.string { data := #[111, 110, 101, 32, 116, 119, 111, 32, 116, 104, 114, 101, 101] }, .int .i64 7] w fun e w' => ∃ g cc, e = .returned (.tuple #[.slice (some ⟨g, 0, none⟩) 2 cc, .int .i64 7]) ∧ w'.cell? ⟨g, 0, none⟩ = some (.string { data := #[111, 110, 101, 32, 116, 119, 111] }) ∧ w'.cell? ⟨g, 1, none⟩ = some (.string { data := #[32, 116, 104, 114, 101, 101] }) ∧ g < w'.heap.size ∧ Below w.heap.size w w' := by
  have C := Lines_any { data := #[111, 110, 101, 32, 116, 119, 111, 32, 116, 104, 114, 101, 101] } 7 w hT (by decide)
  have h1 : linesE 7 (ByteArray.mk #[111, 110, 101, 32, 116, 119, 111, 32, 116, 104, 114, 101, 101]).data.toList = [[111, 110, 101, 32, 116, 119, 111], [32, 116, 104, 114, 101, 101]] := aw_lines
  rw [h1] at C
  unfold LinP at C
  rw [aw_widest] at C
  refine C.mono ?_
  rintro e w' ⟨A, cc, rfl, hown, hb⟩
  obtain ⟨g, rfl, hg, hl⟩ := own_head hown (by decide)
  have hA := At.of_own hown
  obtain ⟨g1, o1, e1, _, c1⟩ := hA.st (k := 0) (by decide)
  obtain ⟨g2, o2, e2, _, c2⟩ := hA.st (k := 1) (by decide)
  cases e1
  cases e2
  exact ⟨g, cc, rfl, c1, c2, hl, hb⟩
theorem awk_next (w : World) : Calls Tryd.prog 23 #[.string { data := #[101, 204, 129] }, .int .i64 0] w fun e w' => e = .returned (.tuple #[.int .i64 3, .bool true]) ∧ Below w.heap.size w w' := by
  have C := small (Next_any { data := #[101, 204, 129] } 0 w (by decide)) (by decide)
  have h : nextE (pcs (ByteArray.mk #[101, 204, 129]).data.toList) 0 = (3, true) := aw_next
  rw [h] at C
  exact C
theorem awk_word (w : World) (hT : Tabs w) : Calls Tryd.prog 27 #[.string { data := #[97, 46, 46, 98] }, .int .i64 1] w fun e w' => e = .returned (.tuple #[.int .i64 3, .bool true]) ∧ Below w.heap.size w w' := by
  have C := Word_any { data := #[97, 46, 46, 98] } 1 w hT (by decide)
  have h : wordE kd (pcs (ByteArray.mk #[97, 46, 46, 98]).data.toList) 1 = (3, true) := aw_word
  rw [h] at C
  exact C
theorem awk_at (w : World) (hT : Tabs w) : Calls Tryd.prog 14 #[.string { data := #[97, 98, 255] }] w fun e w' => e = .returned (.int .i64 2) ∧ Below w.heap.size w w' := by
  have C := At_any { data := #[97, 98, 255] } w hT (by decide)
  have h : atE (ByteArray.mk #[97, 98, 255]).data.toList = 2 := aw_at
  rw [h] at C
  exact C
theorem awk_clean (w : World) : Calls Tryd.prog 16 #[.string { data := #[97, 1, 98, 255] }] w fun e w' => e = .returned (.string { data := #[97, 98, 239, 191, 189] }) ∧ Below w.heap.size w w' := by
  have C := Clean_any { data := #[97, 1, 98, 255] } w (by decide)
  rw [aw_clean] at C
  exact C
theorem awk_w (r : Int) (n : Nat) (h : wid r = n) (w : World) : Calls Tryd.prog 12 #[.int .i32 r] w fun e w' => e = .returned (.int .i64 (n : Int)) ∧ Below w.heap.size w w' := by
  have C := Width_any r w
  rwa [h] at C
theorem awk_wa (w : World) : Calls Tryd.prog 12 #[.int .i32 97] w fun e w' => e = .returned (.int .i64 1) ∧ Below w.heap.size w w' := awk_w 97 1 aw_wa w
theorem awk_wb (w : World) : Calls Tryd.prog 12 #[.int .i32 19968] w fun e w' => e = .returned (.int .i64 2) ∧ Below w.heap.size w w' := awk_w 19968 2 aw_wb w
theorem awk_wc (w : World) : Calls Tryd.prog 12 #[.int .i32 769] w fun e w' => e = .returned (.int .i64 0) ∧ Below w.heap.size w w' := awk_w 769 0 aw_wc w
theorem awk_wd (w : World) : Calls Tryd.prog 12 #[.int .i32 (-1)] w fun e w' => e = .returned (.int .i64 1) ∧ Below w.heap.size w w' := awk_w (-1) 1 aw_wd w
set_option maxHeartbeats 8000000
theorem awake_any (w : World) (hT : TabsL w) : Calls Tryd.prog 9 #[] w fun e w' => e = .returned (.bool true) ∧ Below w.heap.size w w' := by
  go_enter Tryd.func9, Tryd.ntmps9
  go_wp2_with fail
  refine (awk_cells w).mono ?_
  rintro e w1 ⟨rfl, hb1⟩
  go_wp2_with fail
  refine (awk_cut w1).mono ?_
  rintro e w2 ⟨rfl, hb2⟩
  have HB2 := hid (hb1.trans (hb2.mono hb1.size))
  clear hb1 hb2
  have C3 := awk_lines w2 (tabsL_on hT HB2.out)
  go_wp2_with fail
  refine C3.mono ?_
  rintro e w3 ⟨g, cc, rfl, c0, c1, hg, hb3⟩
  have HB3 := hid (HB2.out.trans (hb3.mono HB2.out.size))
  clear hb3 HB2 C3
  have HC0 := hid c0
  have HC1 := hid c1
  clear c0 c1
  go_wp2_with fail
  refine (awk_next w3).mono ?_
  rintro e w4 ⟨rfl, hb4⟩
  have HB4 := hid (HB3.out.trans (hb4.mono HB3.out.size))
  have HP4 := hid hb4
  clear hb4 HB3
  have C5 := awk_word w4 (tabsL_on hT HB4.out).1
  go_wp2_with fail
  refine C5.mono ?_
  rintro e w5 ⟨rfl, hb5⟩
  have HB5 := hid (HB4.out.trans (hb5.mono HB4.out.size))
  have HP5 := hid (HP4.out.trans (hb5.mono HP4.out.size))
  clear hb5 HB4 HP4 C5
  go_wp2_with fail
  refine (awk_wa w5).mono ?_
  rintro e w6 ⟨rfl, hb6⟩
  go_wp2_with fail
  refine (awk_wb w6).mono ?_
  rintro e w7 ⟨rfl, hb7⟩
  go_wp2_with fail
  refine (awk_wc w7).mono ?_
  rintro e w8 ⟨rfl, hb8⟩
  go_wp2_with fail
  refine (awk_wd w8).mono ?_
  rintro e w9 ⟨rfl, hb9⟩
  have hq : Below w5.heap.size w5 w9 := ((hb6.trans (hb7.mono hb6.size)).trans (hb8.mono (hb6.trans (hb7.mono hb6.size)).size)).trans (hb9.mono ((hb6.trans (hb7.mono hb6.size)).trans (hb8.mono (hb6.trans (hb7.mono hb6.size)).size)).size)
  have HB9 := hid (HB5.out.trans (hq.mono HB5.out.size))
  have HP9 := hid (HP5.out.trans (hq.mono HP5.out.size))
  clear hq hb6 hb7 hb8 hb9 HB5 HP5
  have c0 : w9.cell? ⟨g, 0, none⟩ = some (.string { data := #[111, 110, 101, 32, 116, 119, 111] }) := by rw [(bcell HP9.out).1 _ _ hg]; exact HC0.out
  have c1 : w9.cell? ⟨g, 1, none⟩ = some (.string { data := #[32, 116, 104, 114, 101, 101] }) := by rw [(bcell HP9.out).1 _ _ hg]; exact HC1.out
  have hg9 : g < w9.heap.size := by have := HP9.out.size; omega
  have C10 := awk_at w9 (tabsL_on hT HB9.out).1
  go_wp2_with fail
  refine C10.mono ?_
  rintro e w10 ⟨rfl, hb10⟩
  clear c0 c1 C10
  go_wp2_with fail
  refine (awk_clean w10).mono ?_
  rintro e w11 ⟨rfl, hb11⟩
  go_wp2
  go_ret
  refine ⟨rfl, ?_⟩
  have hq := hb10.trans (hb11.mono hb10.size)
  exact HB9.out.trans (hq.mono HB9.out.size)
end Go.Proofs.YtoelmcmdiamnnaaDoor
