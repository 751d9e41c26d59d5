/- Layer 3: marks, broad runes, widths, both sides. (Printed by gen_b.py.) -/
import Derived.Test.YtcfgpmmclijonaaDoorRuA
namespace Go.Proofs.YtcfgpmmclijonaaDoor
set_option linter.unusedVariables false
set_option linter.unusedSimpArgs false
set_option maxRecDepth 100000
open Go.RowKit Go.Lib

theorem At.blk {w : World} {b : Nat} {xs : List Value} {cs : Array Value} {t : TypeId} (h : w.heap[b]? = some (.cells cs t (0, 0))) (hcs : cs = xs.toArray) : At w.heap.size w (some ⟨b, 0, none⟩) xs := by
  intro _
  refine ⟨b, 0, rfl, lt_of_block h, fun j v hj => ?_⟩
  rw [Nat.zero_add, blk_cell h j, hcs]
  simpa using hj
theorem in_blk (L : List (Nat × Nat)) (hl : L.length ≤ 1000) (n : Nat) (hn : L.length = n) (cs : Array Value) (hcs : cs = (sps L).toArray) (t : TypeId) (g c : Nat) (r : Int) (x : World) (h : x.heap[g]? = some (.cells cs t (0, 0))) :
    Calls Tryd.prog 55 #[.int .i32 r, .slice (some ⟨g, 0, none⟩) n c] x fun e w' => e = .returned (.bool (inSp L r)) ∧ Below x.heap.size x w' := by
  subst hn
  exact in_any x.heap.size L _ c r x (At.blk h hcs) (Nat.le_refl _) hl
set_option maxHeartbeats 2000000 in
theorem marks_any (w : World) : Calls Tryd.prog 56 #[] w fun e w' => ∃ g, e = .returned (.slice (some ⟨g, 0, none⟩) 12 12) ∧ w'.heap[g]? = some (.cells #[.int .i32 768, .int .i32 879, .int .i32 1155, .int .i32 1161, .int .i32 1425, .int .i32 1469, .int .i32 1552, .int .i32 1562, .int .i32 1611, .int .i32 1631, .int .i32 8203, .int .i32 8207, .int .i32 8234, .int .i32 8238, .int .i32 8288, .int .i32 8292, .int .i32 8400, .int .i32 8447, .int .i32 65024, .int .i32 65039, .int .i32 65056, .int .i32 65071, .int .i32 917760, .int .i32 917999] 97 (0, 0)) ∧ Below w.heap.size w w' := by
  go_enter Tryd.func56, Tryd.ntmps56
  go_wp2
  go_ret
  exact ⟨_, rfl, heap_alloc_new _ _, (Below.refl _ _).alloc (Nat.le_refl _) _⟩
theorem in_marks (r : Int) (x : World) (g : Nat) (h : x.heap[g]? = some (.cells #[.int .i32 768, .int .i32 879, .int .i32 1155, .int .i32 1161, .int .i32 1425, .int .i32 1469, .int .i32 1552, .int .i32 1562, .int .i32 1611, .int .i32 1631, .int .i32 8203, .int .i32 8207, .int .i32 8234, .int .i32 8238, .int .i32 8288, .int .i32 8292, .int .i32 8400, .int .i32 8447, .int .i32 65024, .int .i32 65039, .int .i32 65056, .int .i32 65071, .int .i32 917760, .int .i32 917999] 97 (0, 0))) : Calls Tryd.prog 55 #[.int .i32 r, .slice (some ⟨g, 0, none⟩) 12 12] x fun e w' => e = .returned (.bool (inSp spM r)) ∧ Below x.heap.size x w' :=
  in_blk spM (by decide) 12 rfl _ rfl _ g 12 r x h
set_option maxHeartbeats 2000000 in
theorem broad_any (w : World) : Calls Tryd.prog 63 #[] w fun e w' => ∃ g, e = .returned (.slice (some ⟨g, 0, none⟩) 14 14) ∧ w'.heap[g]? = some (.cells #[.int .i32 4352, .int .i32 4447, .int .i32 11904, .int .i32 12350, .int .i32 12353, .int .i32 13311, .int .i32 13312, .int .i32 19903, .int .i32 19968, .int .i32 40959, .int .i32 40960, .int .i32 42191, .int .i32 44032, .int .i32 55203, .int .i32 63744, .int .i32 64255, .int .i32 65072, .int .i32 65135, .int .i32 65280, .int .i32 65376, .int .i32 65504, .int .i32 65510, .int .i32 127744, .int .i32 128591, .int .i32 129280, .int .i32 129535, .int .i32 131072, .int .i32 262141] 97 (0, 0)) ∧ Below w.heap.size w w' := by
  go_enter Tryd.func63, Tryd.ntmps63
  go_wp2
  go_ret
  exact ⟨_, rfl, heap_alloc_new _ _, (Below.refl _ _).alloc (Nat.le_refl _) _⟩
theorem in_broad (r : Int) (x : World) (g : Nat) (h : x.heap[g]? = some (.cells #[.int .i32 4352, .int .i32 4447, .int .i32 11904, .int .i32 12350, .int .i32 12353, .int .i32 13311, .int .i32 13312, .int .i32 19903, .int .i32 19968, .int .i32 40959, .int .i32 40960, .int .i32 42191, .int .i32 44032, .int .i32 55203, .int .i32 63744, .int .i32 64255, .int .i32 65072, .int .i32 65135, .int .i32 65280, .int .i32 65376, .int .i32 65504, .int .i32 65510, .int .i32 127744, .int .i32 128591, .int .i32 129280, .int .i32 129535, .int .i32 131072, .int .i32 262141] 97 (0, 0))) : Calls Tryd.prog 55 #[.int .i32 r, .slice (some ⟨g, 0, none⟩) 14 14] x fun e w' => e = .returned (.bool (inSp spB r)) ∧ Below x.heap.size x w' :=
  in_blk spB (by decide) 14 rfl _ rfl _ g 14 r x h
set_option maxHeartbeats 2000000 in
theorem mark_any (r : Int) (w : World) : Calls Tryd.prog 46 #[.int .i32 r] w fun e w' => e = .returned (.bool (isMark r)) ∧ Below w.heap.size w w' := by
  by_cases h : 768 ≤ r
  · have C := in_marks r
    go_enter Tryd.func46, Tryd.ntmps46
    go_wp2_with (first | (go_at_call 56; refine (marks_any _).mono ?_; rintro e w1 ⟨g, rfl, hg, hb1⟩) | (go_at_call 55; refine (C _ _ hg).mono ?_; rintro e w2 ⟨rfl, hb2⟩))
    go_ret
    exact ⟨rfl, hb1.trans (hb2.mono hb1.size)⟩
  · have hl := isMark_low (r := r) (by omega)
    rw [hl]
    go_enter Tryd.func46, Tryd.ntmps46
    go_wp2
    go_ret
    exact ⟨rfl, Below.refl _ _⟩
theorem wide_cases (r : Int) : 4352 ≤ r ∨ (r < 4352 ∧ isWide r = false) := by
  by_cases h : 4352 ≤ r
  · exact .inl h
  · exact .inr ⟨by omega, isWide_low (by omega)⟩
set_option maxHeartbeats 2000000 in
theorem Width_any (r : Int) (w : World) : Calls Tryd.prog 57 #[.int .i32 r] w fun e w' => e = .returned (.int .i64 (wid r : Int)) ∧ Below w.heap.size w w' := by
  have C := in_broad r
  have CO := fun w => okr_any r w
  have CC := fun w => ctl_any r w
  have CM := fun w => mark_any r w
  have hw : wid r = if okRune r then (if isCtl r || isMark r then 0 else if isWide r then 2 else 1) else 1 := rfl
  rw [hw]
  unfold isWide
  generalize okRune r = ok at *
  generalize isCtl r = ct at *
  generalize isMark r = mk at *
  have hwd := wide_cases r
  unfold isWide at hwd
  generalize inSp spB r = wd at *
  clear hw
  rcases hwd with hwd | ⟨hwd, rfl⟩
  · cases ok
    · go_enter Tryd.func57, Tryd.ntmps57
      go_wp2_with (go_at_call 62; refine (CO _).mono ?_; rintro e w1 ⟨rfl, rfl⟩)
      go_ret
      exact ⟨rfl, Below.refl _ _⟩
    · cases ct
      · cases mk
        · cases wd
          all_goals
            go_enter Tryd.func57, Tryd.ntmps57
            go_wp2_with (first | (go_at_call 62; refine (CO _).mono ?_; rintro e w1 ⟨rfl, rfl⟩) | (go_at_call 47; refine (CC _).mono ?_; rintro e w1 ⟨rfl, rfl⟩) | (go_at_call 46; refine (CM _).mono ?_; rintro e w1 ⟨rfl, hb1⟩) | (go_at_call 63; refine (broad_any _).mono ?_; rintro e w2 ⟨g, rfl, hg, hb2⟩) | (go_at_call 55; refine (C _ _ hg).mono ?_; rintro e w3 ⟨rfl, hb3⟩))
            go_ret
            exact ⟨rfl, hb1.trans ((hb2.mono hb1.size).trans (hb3.mono (Nat.le_trans hb1.size hb2.size)))⟩
        · go_enter Tryd.func57, Tryd.ntmps57
          go_wp2_with (first | (go_at_call 62; refine (CO _).mono ?_; rintro e w1 ⟨rfl, rfl⟩) | (go_at_call 47; refine (CC _).mono ?_; rintro e w1 ⟨rfl, rfl⟩) | (go_at_call 46; refine (CM _).mono ?_; rintro e w1 ⟨rfl, hb1⟩))
          go_ret
          exact ⟨rfl, hb1⟩
      · go_enter Tryd.func57, Tryd.ntmps57
        go_wp2_with (first | (go_at_call 62; refine (CO _).mono ?_; rintro e w1 ⟨rfl, rfl⟩) | (go_at_call 47; refine (CC _).mono ?_; rintro e w1 ⟨rfl, rfl⟩))
        go_ret
        exact ⟨rfl, Below.refl _ _⟩
  · have hnl : ¬ (4352 ≤ r) := by omega
    clear hwd
    cases ok
    · go_enter Tryd.func57, Tryd.ntmps57
      go_wp2_with (go_at_call 62; refine (CO _).mono ?_; rintro e w1 ⟨rfl, rfl⟩)
      go_ret
      exact ⟨rfl, Below.refl _ _⟩
    · cases ct
      · cases mk
        all_goals
          go_enter Tryd.func57, Tryd.ntmps57
          go_wp2_with (first | (go_at_call 62; refine (CO _).mono ?_; rintro e w1 ⟨rfl, rfl⟩) | (go_at_call 47; refine (CC _).mono ?_; rintro e w1 ⟨rfl, rfl⟩) | (go_at_call 46; refine (CM _).mono ?_; rintro e w1 ⟨rfl, hb1⟩))
          go_ret
          exact ⟨rfl, hb1⟩
      · go_enter Tryd.func57, Tryd.ntmps57
        go_wp2_with (first | (go_at_call 62; refine (CO _).mono ?_; rintro e w1 ⟨rfl, rfl⟩) | (go_at_call 47; refine (CC _).mono ?_; rintro e w1 ⟨rfl, rfl⟩))
        go_ret
        exact ⟨rfl, Below.refl _ _⟩
set_option maxHeartbeats 1000000 in
theorem pcells_any (a b r : Int) (w : World) : Calls Tryd.prog 48 #[.agg #[.int .i64 a, .int .i64 b, .int .i32 r]] w fun e w' => e = .returned (.int .i64 (wid r : Int)) ∧ Below w.heap.size w w' := by
  have C := fun w => Width_any r w
  go_enter Tryd.func48, Tryd.ntmps48
  go_wp2_with (go_at_call 57; refine (C _).mono ?_; rintro e w1 ⟨rfl, hb1⟩)
  go_ret
  exact ⟨rfl, ((Below.refl w.heap.size w).alloc (Nat.le_refl _) _).trans (hb1.mono (by simp))⟩
end Go.Proofs.YtcfgpmmclijonaaDoor
