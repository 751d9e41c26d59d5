/- Layer 3: marks, broad runes, widths, both sides. (Printed by gen_b.py.) -/
import Derived.Test.YtcfgpmmclijonaaGreatDoorRuA
namespace Go.Proofs.YtcfgpmmclijonaaGreatDoor
set_option linter.unusedVariables false
set_option linter.unusedSimpArgs false
set_option maxRecDepth 100000
open Go.RowKit Go.Lib

theorem At.blk {w : World} {b : Nat} {xs : List Value} {cs : Array Value} {t : TypeId} (h : w.heap[b]? = some (.cells cs t (0, 0))) (hcs : cs = xs.toArray) : At w.heap.size w (some ⟨b, 0, none⟩) xs := by
  intro _
  refine ⟨b, 0, rfl, lt_of_block h, fun j v hj => ?_⟩
  rw [Nat.zero_add, blk_cell h j, hcs]
  simpa using hj
theorem in_blk (L : List (Nat × Nat)) (hl : L.length ≤ 1000) (n : Nat) (hn : L.length = n) (cs : Array Value) (hcs : cs = (sps L).toArray) (t : TypeId) (g c : Nat) (r : Int) (x : World) (h : x.heap[g]? = some (.cells cs t (0, 0))) :
    Calls Tryz.prog 98 #[.int .i32 r, .slice (some ⟨g, 0, none⟩) n c] x fun e w' => e = .returned (.bool (inSp L r)) ∧ Below x.heap.size x w' := by
  subst hn
  exact in_any x.heap.size L _ c r x (At.blk h hcs) (Nat.le_refl _) hl
set_option maxHeartbeats 2000000 in
set_option maxRecDepth 100000 in
theorem among_any (B : Nat) (L : List (Nat × Nat)) (A : Option Addr) (N c : Nat) (hN : N = L.length * 2) (r : Int) (w : World) (hA : At B w A (sps L)) (hB : B ≤ w.heap.size) (hl : L.length ≤ 1000) :
    Calls Tryz.prog 106 #[.int .i32 r, .slice A N c] w fun e w' => e = .returned (.bool (inSp L r)) ∧ Below w.heap.size w w' := by
  have HA := hid hA
  have HN := hid hN
  have z0 : (N : Int) ≤ 2000 := by omega
  clear hA hN
  go_enter Tryz.func106, Tryz.ntmps106
  go_wp2
  go_loopg [5] L.length (fun gh i wr => ∃ k : Nat, k ≤ L.length ∧ L.length - k ≤ gh ∧ i = .int .i64 ((2 * k : Nat) : Int) ∧ Hid (inSp (L.take k) r = false) ∧ Below w.heap.size w wr)
  case atStart => exact ⟨0, by omega, by omega, rfl, hid rfl, Below.refl _ _⟩
  case round =>
    obtain ⟨k, hk, hgk, rfl, HP, hbr⟩ := hrel
    have hsr := hbr.size
    by_cases hlt : k < L.length
    · have hli : ((2 * k : Nat) : Int) + 1 < (N : Int) := by have := HN.out; omega
      have hlj : ((2 * k : Nat) : Int) < (N : Int) := by omega
      have hkk : ((2 * k : Nat) : Int) ≤ 2000 := by omega
      obtain ⟨g, o, rfl, hg, c0, c1⟩ := (HA.out.below (hbr.mono hB)).sp hlt
      have hsu := inSp_take L r k hlt
      have hyes := inSp_yes L r (k + 1)
      have HS := hid hsu
      have HY := hid hyes
      clear hsu hyes
      rw [show o + k * 2 + 1 = o + (2 * k + 1) by omega] at c1
      rw [show o + k * 2 = o + 2 * k by omega] at c0
      generalize L[k].1 = x at *
      generalize L[k].2 = y at *
      generalize hm : 2 * k = m at *
      have HM := hid hm
      clear hm
      by_cases h1 : (x : Int) ≤ r
      · by_cases h2 : r ≤ (y : Int)
        · go_wp2
          go_ret
          refine ⟨ret_bool ?_, (by repeat (first | exact Below.refl _ _ | with_reducible refine Below.alloc ?_ (by first | (simp; done) | (simp; omega) | omega) _ | with_reducible refine Below.setCell ?_ (by first | (simp; done) | (simp; omega) | omega) _ | with_reducible refine Below.drew ?_ | with_reducible refine Below.trans ?_ (Below.mono (by assumption) (by first | (simp; done) | (simp; omega) | omega))))⟩
          exact (HY.out (by rw [HS.out]; simp [h1, h2])).symm
        · go_wp2
          go_roundg (L.length - (k + 1))
          case measure => omega
          case rel => exact ⟨k + 1, by omega, by omega, by have := HM.out; go_num, hid (by rw [HS.out, HP.out]; simp; omega), (by repeat (first | exact Below.refl _ _ | with_reducible refine Below.alloc ?_ (by first | (simp; done) | (simp; omega) | omega) _ | with_reducible refine Below.setCell ?_ (by first | (simp; done) | (simp; omega) | omega) _ | with_reducible refine Below.drew ?_ | with_reducible refine Below.trans ?_ (Below.mono (by assumption) (by first | (simp; done) | (simp; omega) | omega))))⟩
      · go_wp2
        go_roundg (L.length - (k + 1))
        case measure => omega
        case rel => exact ⟨k + 1, by omega, by omega, by have := HM.out; go_num, hid (by rw [HS.out, HP.out]; simp; omega), (by repeat (first | exact Below.refl _ _ | with_reducible refine Below.alloc ?_ (by first | (simp; done) | (simp; omega) | omega) _ | with_reducible refine Below.setCell ?_ (by first | (simp; done) | (simp; omega) | omega) _ | with_reducible refine Below.drew ?_ | with_reducible refine Below.trans ?_ (Below.mono (by assumption) (by first | (simp; done) | (simp; omega) | omega))))⟩
    · have hli : ¬ (((2 * k : Nat) : Int) + 1 < (N : Int)) := by have := HN.out; omega
      have hkk : ((2 * k : Nat) : Int) ≤ 2000 := by omega
      have hkl : k = L.length := by omega
      go_wp2
      go_ret
      refine ⟨ret_bool ?_, hbr⟩
      have := HP.out
      rw [hkl, List.take_length] at this
      exact this.symm
theorem among_blk (L : List (Nat × Nat)) (hl : L.length ≤ 1000) (n : Nat) (hn : n = L.length * 2) (cs : Array Value) (hcs : cs = (sps L).toArray) (t : TypeId) (g c : Nat) (r : Int) (x : World) (h : x.heap[g]? = some (.cells cs t (0, 0))) :
    Calls Tryz.prog 106 #[.int .i32 r, .slice (some ⟨g, 0, none⟩) n c] x fun e w' => e = .returned (.bool (inSp L r)) ∧ Below x.heap.size x w' :=
  among_any x.heap.size L _ n c hn r x (At.blk h hcs) (Nat.le_refl _) hl
set_option maxHeartbeats 2000000 in
theorem marks_any (w : World) : Calls Tryz.prog 99 #[] w fun e w' => ∃ g, e = .returned (.slice (some ⟨g, 0, none⟩) 12 12) ∧ w'.heap[g]? = some (.cells #[.int .i32 768, .int .i32 879, .int .i32 1155, .int .i32 1161, .int .i32 1425, .int .i32 1469, .int .i32 1552, .int .i32 1562, .int .i32 1611, .int .i32 1631, .int .i32 8203, .int .i32 8207, .int .i32 8234, .int .i32 8238, .int .i32 8288, .int .i32 8292, .int .i32 8400, .int .i32 8447, .int .i32 65024, .int .i32 65039, .int .i32 65056, .int .i32 65071, .int .i32 917760, .int .i32 917999] 140 (0, 0)) ∧ Below w.heap.size w w' := by
  go_enter Tryz.func99, Tryz.ntmps99
  go_wp2
  go_ret
  exact ⟨_, rfl, heap_alloc_new _ _, (Below.refl _ _).alloc (Nat.le_refl _) _⟩
theorem in_marks (r : Int) (x : World) (g : Nat) (h : x.heap[g]? = some (.cells #[.int .i32 768, .int .i32 879, .int .i32 1155, .int .i32 1161, .int .i32 1425, .int .i32 1469, .int .i32 1552, .int .i32 1562, .int .i32 1611, .int .i32 1631, .int .i32 8203, .int .i32 8207, .int .i32 8234, .int .i32 8238, .int .i32 8288, .int .i32 8292, .int .i32 8400, .int .i32 8447, .int .i32 65024, .int .i32 65039, .int .i32 65056, .int .i32 65071, .int .i32 917760, .int .i32 917999] 140 (0, 0))) : Calls Tryz.prog 98 #[.int .i32 r, .slice (some ⟨g, 0, none⟩) 12 12] x fun e w' => e = .returned (.bool (inSp spM r)) ∧ Below x.heap.size x w' :=
  in_blk spM (by decide) 12 rfl _ rfl _ g 12 r x h
set_option maxHeartbeats 2000000 in
theorem broad_any (w : World) : Calls Tryz.prog 102 #[] w fun e w' => ∃ g, e = .returned (.slice (some ⟨g, 0, none⟩) 14 14) ∧ w'.heap[g]? = some (.cells #[.int .i32 4352, .int .i32 4447, .int .i32 11904, .int .i32 12350, .int .i32 12353, .int .i32 13311, .int .i32 13312, .int .i32 19903, .int .i32 19968, .int .i32 40959, .int .i32 40960, .int .i32 42191, .int .i32 44032, .int .i32 55203, .int .i32 63744, .int .i32 64255, .int .i32 65072, .int .i32 65135, .int .i32 65280, .int .i32 65376, .int .i32 65504, .int .i32 65510, .int .i32 127744, .int .i32 128591, .int .i32 129280, .int .i32 129535, .int .i32 131072, .int .i32 262141] 140 (0, 0)) ∧ Below w.heap.size w w' := by
  go_enter Tryz.func102, Tryz.ntmps102
  go_wp2
  go_ret
  exact ⟨_, rfl, heap_alloc_new _ _, (Below.refl _ _).alloc (Nat.le_refl _) _⟩
theorem in_broad (r : Int) (x : World) (g : Nat) (h : x.heap[g]? = some (.cells #[.int .i32 4352, .int .i32 4447, .int .i32 11904, .int .i32 12350, .int .i32 12353, .int .i32 13311, .int .i32 13312, .int .i32 19903, .int .i32 19968, .int .i32 40959, .int .i32 40960, .int .i32 42191, .int .i32 44032, .int .i32 55203, .int .i32 63744, .int .i32 64255, .int .i32 65072, .int .i32 65135, .int .i32 65280, .int .i32 65376, .int .i32 65504, .int .i32 65510, .int .i32 127744, .int .i32 128591, .int .i32 129280, .int .i32 129535, .int .i32 131072, .int .i32 262141] 140 (0, 0))) : Calls Tryz.prog 98 #[.int .i32 r, .slice (some ⟨g, 0, none⟩) 14 14] x fun e w' => e = .returned (.bool (inSp spB r)) ∧ Below x.heap.size x w' :=
  in_blk spB (by decide) 14 rfl _ rfl _ g 14 r x h
set_option maxHeartbeats 2000000 in
set_option maxRecDepth 100000 in
theorem rmark_any (r : Int) (w : World) : Calls Tryz.prog 93 #[.int .i32 r] w fun e w' => e = .returned (.bool (isMark r)) ∧ Below w.heap.size w w' := by
  have C := among_blk spM (by decide) 24 rfl #[.int .i32 768, .int .i32 879, .int .i32 1155, .int .i32 1161, .int .i32 1425, .int .i32 1469, .int .i32 1552, .int .i32 1562, .int .i32 1611, .int .i32 1631, .int .i32 8203, .int .i32 8207, .int .i32 8234, .int .i32 8238, .int .i32 8288, .int .i32 8292, .int .i32 8400, .int .i32 8447, .int .i32 65024, .int .i32 65039, .int .i32 65056, .int .i32 65071, .int .i32 917760, .int .i32 917999] rfl 21 w.heap.size 24 r _ (heap_alloc_new w (.cells #[.int .i32 768, .int .i32 879, .int .i32 1155, .int .i32 1161, .int .i32 1425, .int .i32 1469, .int .i32 1552, .int .i32 1562, .int .i32 1611, .int .i32 1631, .int .i32 8203, .int .i32 8207, .int .i32 8234, .int .i32 8238, .int .i32 8288, .int .i32 8292, .int .i32 8400, .int .i32 8447, .int .i32 65024, .int .i32 65039, .int .i32 65056, .int .i32 65071, .int .i32 917760, .int .i32 917999] 21))
  have HB := (Below.refl w.heap.size w).alloc (Nat.le_refl _) (.cells #[.int .i32 768, .int .i32 879, .int .i32 1155, .int .i32 1161, .int .i32 1425, .int .i32 1469, .int .i32 1552, .int .i32 1562, .int .i32 1611, .int .i32 1631, .int .i32 8203, .int .i32 8207, .int .i32 8234, .int .i32 8238, .int .i32 8288, .int .i32 8292, .int .i32 8400, .int .i32 8447, .int .i32 65024, .int .i32 65039, .int .i32 65056, .int .i32 65071, .int .i32 917760, .int .i32 917999] 21)
  go_enter Tryz.func93, Tryz.ntmps93
  go_wp2_with (go_at_call 106; refine C.mono ?_; rintro e w1 ⟨rfl, hb⟩)
  go_ret
  exact ⟨rfl, HB.trans (hb.mono (by simp))⟩
set_option maxHeartbeats 2000000 in
set_option maxRecDepth 100000 in
theorem rwide_any (r : Int) (w : World) : Calls Tryz.prog 94 #[.int .i32 r] w fun e w' => e = .returned (.bool (isWide r)) ∧ Below w.heap.size w w' := by
  have C := among_blk spB (by decide) 28 rfl #[.int .i32 4352, .int .i32 4447, .int .i32 11904, .int .i32 12350, .int .i32 12353, .int .i32 13311, .int .i32 13312, .int .i32 19903, .int .i32 19968, .int .i32 40959, .int .i32 40960, .int .i32 42191, .int .i32 44032, .int .i32 55203, .int .i32 63744, .int .i32 64255, .int .i32 65072, .int .i32 65135, .int .i32 65280, .int .i32 65376, .int .i32 65504, .int .i32 65510, .int .i32 127744, .int .i32 128591, .int .i32 129280, .int .i32 129535, .int .i32 131072, .int .i32 262141] rfl 21 w.heap.size 28 r _ (heap_alloc_new w (.cells #[.int .i32 4352, .int .i32 4447, .int .i32 11904, .int .i32 12350, .int .i32 12353, .int .i32 13311, .int .i32 13312, .int .i32 19903, .int .i32 19968, .int .i32 40959, .int .i32 40960, .int .i32 42191, .int .i32 44032, .int .i32 55203, .int .i32 63744, .int .i32 64255, .int .i32 65072, .int .i32 65135, .int .i32 65280, .int .i32 65376, .int .i32 65504, .int .i32 65510, .int .i32 127744, .int .i32 128591, .int .i32 129280, .int .i32 129535, .int .i32 131072, .int .i32 262141] 21))
  have HB := (Below.refl w.heap.size w).alloc (Nat.le_refl _) (.cells #[.int .i32 4352, .int .i32 4447, .int .i32 11904, .int .i32 12350, .int .i32 12353, .int .i32 13311, .int .i32 13312, .int .i32 19903, .int .i32 19968, .int .i32 40959, .int .i32 40960, .int .i32 42191, .int .i32 44032, .int .i32 55203, .int .i32 63744, .int .i32 64255, .int .i32 65072, .int .i32 65135, .int .i32 65280, .int .i32 65376, .int .i32 65504, .int .i32 65510, .int .i32 127744, .int .i32 128591, .int .i32 129280, .int .i32 129535, .int .i32 131072, .int .i32 262141] 21)
  go_enter Tryz.func94, Tryz.ntmps94
  go_wp2_with (go_at_call 106; refine C.mono ?_; rintro e w1 ⟨rfl, hb⟩)
  go_ret
  exact ⟨rfl, HB.trans (hb.mono (by simp))⟩
set_option maxHeartbeats 2000000 in
theorem mark_any (r : Int) (w : World) : Calls Tryz.prog 81 #[.int .i32 r] w fun e w' => e = .returned (.bool (isMark r)) ∧ Below w.heap.size w w' := by
  by_cases h : 768 ≤ r
  · have C := in_marks r
    go_enter Tryz.func81, Tryz.ntmps81
    go_wp2_with (first | (go_at_call 99; refine (marks_any _).mono ?_; rintro e w1 ⟨g, rfl, hg, hb1⟩) | (go_at_call 98; refine (C _ _ hg).mono ?_; rintro e w2 ⟨rfl, hb2⟩))
    go_ret
    exact ⟨rfl, hb1.trans (hb2.mono hb1.size)⟩
  · have hl := isMark_low (r := r) (by omega)
    rw [hl]
    go_enter Tryz.func81, Tryz.ntmps81
    go_wp2
    go_ret
    exact ⟨rfl, Below.refl _ _⟩
theorem wide_cases (r : Int) : 4352 ≤ r ∨ (r < 4352 ∧ isWide r = false) := by
  by_cases h : 4352 ≤ r
  · exact .inl h
  · exact .inr ⟨by omega, isWide_low (by omega)⟩
set_option maxHeartbeats 2000000 in
theorem Width_any (r : Int) (w : World) : Calls Tryz.prog 84 #[.int .i32 r] w fun e w' => e = .returned (.int .i64 (wid r : Int)) ∧ Below w.heap.size w w' := by
  have C := in_broad r
  have CO := fun w => okr_any r w
  have CC := fun w => ctl_any r w
  have CM := fun w => mark_any r w
  have hw : wid r = if okRune r then (if isCtl r || isMark r then 0 else if isWide r then 2 else 1) else 1 := rfl
  rw [hw]
  unfold isWide
  generalize okRune r = ok at *
  generalize isCtl r = ct at *
  generalize isMark r = mk at *
  have hwd := wide_cases r
  unfold isWide at hwd
  generalize inSp spB r = wd at *
  clear hw
  rcases hwd with hwd | ⟨hwd, rfl⟩
  · cases ok
    · go_enter Tryz.func84, Tryz.ntmps84
      go_wp2_with (go_at_call 101; refine (CO _).mono ?_; rintro e w1 ⟨rfl, rfl⟩)
      go_ret
      exact ⟨rfl, Below.refl _ _⟩
    · cases ct
      · cases mk
        · cases wd
          all_goals
            go_enter Tryz.func84, Tryz.ntmps84
            go_wp2_with (first | (go_at_call 101; refine (CO _).mono ?_; rintro e w1 ⟨rfl, rfl⟩) | (go_at_call 82; refine (CC _).mono ?_; rintro e w1 ⟨rfl, rfl⟩) | (go_at_call 81; refine (CM _).mono ?_; rintro e w1 ⟨rfl, hb1⟩) | (go_at_call 102; refine (broad_any _).mono ?_; rintro e w2 ⟨g, rfl, hg, hb2⟩) | (go_at_call 98; refine (C _ _ hg).mono ?_; rintro e w3 ⟨rfl, hb3⟩))
            go_ret
            exact ⟨rfl, hb1.trans ((hb2.mono hb1.size).trans (hb3.mono (Nat.le_trans hb1.size hb2.size)))⟩
        · go_enter Tryz.func84, Tryz.ntmps84
          go_wp2_with (first | (go_at_call 101; refine (CO _).mono ?_; rintro e w1 ⟨rfl, rfl⟩) | (go_at_call 82; refine (CC _).mono ?_; rintro e w1 ⟨rfl, rfl⟩) | (go_at_call 81; refine (CM _).mono ?_; rintro e w1 ⟨rfl, hb1⟩))
          go_ret
          exact ⟨rfl, hb1⟩
      · go_enter Tryz.func84, Tryz.ntmps84
        go_wp2_with (first | (go_at_call 101; refine (CO _).mono ?_; rintro e w1 ⟨rfl, rfl⟩) | (go_at_call 82; refine (CC _).mono ?_; rintro e w1 ⟨rfl, rfl⟩))
        go_ret
        exact ⟨rfl, Below.refl _ _⟩
  · have hnl : ¬ (4352 ≤ r) := by omega
    clear hwd
    cases ok
    · go_enter Tryz.func84, Tryz.ntmps84
      go_wp2_with (go_at_call 101; refine (CO _).mono ?_; rintro e w1 ⟨rfl, rfl⟩)
      go_ret
      exact ⟨rfl, Below.refl _ _⟩
    · cases ct
      · cases mk
        all_goals
          go_enter Tryz.func84, Tryz.ntmps84
          go_wp2_with (first | (go_at_call 101; refine (CO _).mono ?_; rintro e w1 ⟨rfl, rfl⟩) | (go_at_call 82; refine (CC _).mono ?_; rintro e w1 ⟨rfl, rfl⟩) | (go_at_call 81; refine (CM _).mono ?_; rintro e w1 ⟨rfl, hb1⟩))
          go_ret
          exact ⟨rfl, hb1⟩
      · go_enter Tryz.func84, Tryz.ntmps84
        go_wp2_with (first | (go_at_call 101; refine (CO _).mono ?_; rintro e w1 ⟨rfl, rfl⟩) | (go_at_call 82; refine (CC _).mono ?_; rintro e w1 ⟨rfl, rfl⟩))
        go_ret
        exact ⟨rfl, Below.refl _ _⟩
set_option maxHeartbeats 4000000 in
theorem rWidth_any (r : Int) (w : World) : Calls Tryz.prog 73 #[.int .i32 r] w fun e w' => e = .returned (.int .i64 (wid r : Int)) ∧ Below w.heap.size w w' := by
  have CC := fun w => rctl_any r w
  have CM := fun w => rmark_any r w
  have CW := fun w => rwide_any r w
  have hw : wid r = if okRune r then (if isCtl r || isMark r then 0 else if isWide r then 2 else 1) else 1 := rfl
  rw [hw]
  have hok := ok_cases r
  generalize okRune r = ok at *
  generalize isCtl r = ct at *
  generalize isMark r = mk at *
  generalize isWide r = wd at *
  clear hw
  rcases hok with ⟨h1, rfl⟩ | ⟨h1, h2, rfl⟩ | ⟨h1, h2, rfl⟩ | ⟨h1, h2, rfl⟩ | ⟨h1, rfl⟩
  case inl | inr.inr.inl | inr.inr.inr.inr =>
    (try have g0 : ¬ (r < 0) := by omega)
    (try have g1 : r ≤ 1114111 := by omega)
    go_enter Tryz.func73, Tryz.ntmps73
    go_wp2
    go_ret
    exact ⟨rfl, Below.refl _ _⟩
  all_goals
    have g0 : ¬ (r < 0) := by omega
    have g1 : ¬ (1114111 < r) := by omega
    (try have g2 : ¬ (55296 ≤ r) := by omega)
    (try have g3 : ¬ (r ≤ 57343) := by omega)
    (try have g4 : 55296 ≤ r := by omega)
    cases ct
    · cases mk
      · cases wd
        all_goals
          go_enter Tryz.func73, Tryz.ntmps73
          go_wp2_with (first | (go_at_call 92; refine (CC _).mono ?_; rintro e w1 ⟨rfl, rfl⟩) | (go_at_call 93; refine (CM _).mono ?_; rintro e w1 ⟨rfl, hb1⟩) | (go_at_call 94; refine (CW _).mono ?_; rintro e w2 ⟨rfl, hb2⟩))
          go_ret
          exact ⟨rfl, hb1.trans (hb2.mono hb1.size)⟩
      · go_enter Tryz.func73, Tryz.ntmps73
        go_wp2_with (first | (go_at_call 92; refine (CC _).mono ?_; rintro e w1 ⟨rfl, rfl⟩) | (go_at_call 93; refine (CM _).mono ?_; rintro e w1 ⟨rfl, hb1⟩))
        go_ret
        exact ⟨rfl, hb1⟩
    · go_enter Tryz.func73, Tryz.ntmps73
      go_wp2_with (go_at_call 92; refine (CC _).mono ?_; rintro e w1 ⟨rfl, rfl⟩)
      go_ret
      exact ⟨rfl, Below.refl _ _⟩
set_option maxHeartbeats 1000000 in
theorem pcells_any (a b r : Int) (w : World) : Calls Tryz.prog 97 #[.agg #[.int .i64 a, .int .i64 b, .int .i32 r]] w fun e w' => e = .returned (.int .i64 (wid r : Int)) ∧ Below w.heap.size w w' := by
  have C := fun w => Width_any r w
  go_enter Tryz.func97, Tryz.ntmps97
  go_wp2_with (go_at_call 84; refine (C _).mono ?_; rintro e w1 ⟨rfl, hb1⟩)
  go_ret
  exact ⟨rfl, ((Below.refl w.heap.size w).alloc (Nat.le_refl _) _).trans (hb1.mono (by simp))⟩
end Go.Proofs.YtcfgpmmclijonaaGreatDoor
