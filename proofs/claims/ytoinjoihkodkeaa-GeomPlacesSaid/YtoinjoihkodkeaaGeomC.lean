/- Layer 1: the reference's functions (casementref01), by the same plain functions. -/
import Derived.Test.YtoinjoihkodkeaaGeomA
namespace Go.Proofs.Ytoinjoihkodkeaa
set_option linter.unusedVariables false
set_option linter.unusedSimpArgs false
open Go.RowKit
attribute [local go_sem] max_fold min_fold

def span (a n : Int) : Bool := within a && side n && decide (a + n ≤ 16384)
theorem may_span (x y a b : Int) : may ⟨x, y, a, b⟩ = (span x a && span y b) := by
  unfold may span
  cases within x <;> cases within y <;> cases side a <;> cases side b <;> simp
theorem span_bd {a n : Int} (h : span a n = true) : (-16384 ≤ a ∧ a ≤ 16384) ∧ (0 ≤ n ∧ n ≤ 32768) ∧ a + n ≤ 16384 := by
  simpa [span, within_iff, side_iff, and_assoc] using h

set_option maxHeartbeats 400000 in
theorem rspan_any (a n : Int) (w : World) : Calls Try.prog 57 #[.int .i64 a, .int .i64 n] w fun e w' => e = .returned (.bool (span a n)) ∧ w = w' := by
  cases h1 : within a
  · go_enter Try.func57, Try.ntmps57
    go_wp2_with (first | (go_at_call 43; refine (rwithin_any _ _).mono ?_; rintro e w' ⟨rfl, rfl⟩) | (go_at_call 52; refine (rside_any _ _).mono ?_; rintro e w' ⟨rfl, rfl⟩))
    go_ret
    exact ⟨ret_bool (by simp [span, h1]), rfl⟩
  · have b1 := (within_iff a).1 h1
    cases h2 : side n
    · go_enter Try.func57, Try.ntmps57
      go_wp2_with (first | (go_at_call 43; refine (rwithin_any _ _).mono ?_; rintro e w' ⟨rfl, rfl⟩) | (go_at_call 52; refine (rside_any _ _).mono ?_; rintro e w' ⟨rfl, rfl⟩))
      go_ret
      exact ⟨ret_bool (by simp [span, h1, h2]), rfl⟩
    · have b2 := (side_iff n).1 h2
      go_enter Try.func57, Try.ntmps57
      go_wp2_with (first | (go_at_call 43; refine (rwithin_any _ _).mono ?_; rintro e w' ⟨rfl, rfl⟩) | (go_at_call 52; refine (rside_any _ _).mono ?_; rintro e w' ⟨rfl, rfl⟩))
      all_goals
        go_ret
        exact ⟨ret_bool (by simp [span, h1, h2]), rfl⟩

set_option maxHeartbeats 400000 in
theorem rmay_any (x y a b : Int) (w : World) :
    Calls Try.prog 46 #[.agg #[.int .i64 x, .int .i64 y, .int .i64 a, .int .i64 b]] w fun e w' => e = .returned (.bool (may ⟨x, y, a, b⟩)) ∧ Below w.heap.size w w' := by
  rw [may_span]
  cases h1 : span x a
  all_goals
    go_enter Try.func46, Try.ntmps46
    go_wp2_with (first | (go_at_call 57; refine (rspan_any _ _ _).mono ?_; rintro e w' ⟨rfl, rfl⟩))
    go_ret
    exact ⟨ret_bool (by simp), (by repeat (first | exact Below.refl _ _ | with_reducible refine Below.alloc ?_ (by first | (simp; done) | (simp; omega) | omega) _ | with_reducible refine Below.setCell ?_ (by first | (simp; done) | (simp; omega) | omega) _ | with_reducible refine Below.drew ?_ | with_reducible refine Below.trans ?_ (Below.mono (by assumption) (by first | (simp; done) | (simp; omega) | omega))))⟩

set_option maxHeartbeats 400000 in
theorem rcheck_any (x y a b : Int) (w : World) :
    Calls Try.prog 13 #[.agg #[.int .i64 x, .int .i64 y, .int .i64 a, .int .i64 b]] w fun e w' => e = .returned (.int .i64 (checkE ⟨x, y, a, b⟩)) ∧ Below w.heap.size w w' := by
  cases h1 : may ⟨x, y, a, b⟩
  all_goals
    go_enter Try.func13, Try.ntmps13
    go_wp2_with (first | (go_at_call 46; refine (rmay_any _ _ _ _ _).mono ?_; rintro e w1 ⟨rfl, hb⟩; (first | (have hP1 := hP.trans (hb.mono hP.size); clear hP hb hc hf z0; have hP := hP1; clear hP1) | (have hP := hb; clear hb)); obtain ⟨hc, hf⟩ := bcell hP; have z0 : w.heap.size < w1.heap.size := (by have hz := hP.size; (try simp at hz); omega)))
    go_ret
    exact ⟨ret_int (by simp [checkE, h1]), (by repeat (first | exact Below.refl _ _ | with_reducible refine Below.alloc ?_ (by first | (simp; done) | (simp; omega) | omega) _ | with_reducible refine Below.setCell ?_ (by first | (simp; done) | (simp; omega) | omega) _ | with_reducible refine Below.drew ?_ | with_reducible refine Below.trans ?_ (Below.mono (by assumption) (by first | (simp; done) | (simp; omega) | omega))))⟩

set_option maxHeartbeats 400000 in
theorem rempty_any (x y a b : Int) (w : World) :
    Calls Try.prog 15 #[.agg #[.int .i64 x, .int .i64 y, .int .i64 a, .int .i64 b]] w fun e w' => e = .returned (.bool (empty ⟨x, y, a, b⟩)) ∧ Below w.heap.size w w' := by
  cases h1 : may ⟨x, y, a, b⟩
  · go_enter Try.func15, Try.ntmps15
    go_wp2_with (first | (go_at_call 46; refine (rmay_any _ _ _ _ _).mono ?_; rintro e w1 ⟨rfl, hb⟩; (first | (have hP1 := hP.trans (hb.mono hP.size); clear hP hb hc hf z0; have hP := hP1; clear hP1) | (have hP := hb; clear hb)); obtain ⟨hc, hf⟩ := bcell hP; have z0 : w.heap.size < w1.heap.size := (by have hz := hP.size; (try simp at hz); omega)))
    go_ret
    exact ⟨ret_bool (by simp [empty, h1]), (by repeat (first | exact Below.refl _ _ | with_reducible refine Below.alloc ?_ (by first | (simp; done) | (simp; omega) | omega) _ | with_reducible refine Below.setCell ?_ (by first | (simp; done) | (simp; omega) | omega) _ | with_reducible refine Below.drew ?_ | with_reducible refine Below.trans ?_ (Below.mono (by assumption) (by first | (simp; done) | (simp; omega) | omega))))⟩
  · cases h2 : (a == 0)
    all_goals
      go_enter Try.func15, Try.ntmps15
      go_wp2_with (first | (go_at_call 46; refine (rmay_any _ _ _ _ _).mono ?_; rintro e w1 ⟨rfl, hb⟩; (first | (have hP1 := hP.trans (hb.mono hP.size); clear hP hb hc hf z0; have hP := hP1; clear hP1) | (have hP := hb; clear hb)); obtain ⟨hc, hf⟩ := bcell hP; have z0 : w.heap.size < w1.heap.size := (by have hz := hP.size; (try simp at hz); omega)))
      go_ret
      exact ⟨ret_bool (by simp [empty, h1, h2]), (by repeat (first | exact Below.refl _ _ | with_reducible refine Below.alloc ?_ (by first | (simp; done) | (simp; omega) | omega) _ | with_reducible refine Below.setCell ?_ (by first | (simp; done) | (simp; omega) | omega) _ | with_reducible refine Below.drew ?_ | with_reducible refine Below.trans ?_ (Below.mono (by assumption) (by first | (simp; done) | (simp; omega) | omega))))⟩

theorem rempty_is {x y a b : Int} {v : Bool} (h : empty ⟨x, y, a, b⟩ = v) (w : World) :
    Calls Try.prog 15 #[.agg #[.int .i64 x, .int .i64 y, .int .i64 a, .int .i64 b]] w fun e w' => e = .returned (.bool v) ∧ Below w.heap.size w w' := h ▸ rempty_any x y a b w

set_option maxHeartbeats 400000 in
theorem rarea_any (x y a b : Int) (w : World) :
    Calls Try.prog 17 #[.agg #[.int .i64 x, .int .i64 y, .int .i64 a, .int .i64 b]] w fun e w' => e = .returned (.int .i64 (area ⟨x, y, a, b⟩)) ∧ Below w.heap.size w w' := by
  cases h1 : empty ⟨x, y, a, b⟩
  · rw [area_eq (empty_may h1)]
    go_enter Try.func17, Try.ntmps17
    go_wp2_with (first | (go_at_call 15; refine (rempty_any _ _ _ _ _).mono ?_; rintro e w1 ⟨rfl, hb⟩; (first | (have hP1 := hP.trans (hb.mono hP.size); clear hP hb hc hf z0; have hP := hP1; clear hP1) | (have hP := hb; clear hb)); obtain ⟨hc, hf⟩ := bcell hP; have z0 : w.heap.size < w1.heap.size := (by have hz := hP.size; (try simp at hz); omega)))
    go_ret
    exact ⟨rfl, (by repeat (first | exact Below.refl _ _ | with_reducible refine Below.alloc ?_ (by first | (simp; done) | (simp; omega) | omega) _ | with_reducible refine Below.setCell ?_ (by first | (simp; done) | (simp; omega) | omega) _ | with_reducible refine Below.drew ?_ | with_reducible refine Below.trans ?_ (Below.mono (by assumption) (by first | (simp; done) | (simp; omega) | omega))))⟩
  · rw [show area ⟨x, y, a, b⟩ = 0 by simp [area, h1]]
    go_enter Try.func17, Try.ntmps17
    go_wp2_with (first | (go_at_call 15; refine (rempty_any _ _ _ _ _).mono ?_; rintro e w1 ⟨rfl, hb⟩; (first | (have hP1 := hP.trans (hb.mono hP.size); clear hP hb hc hf z0; have hP := hP1; clear hP1) | (have hP := hb; clear hb)); obtain ⟨hc, hf⟩ := bcell hP; have z0 : w.heap.size < w1.heap.size := (by have hz := hP.size; (try simp at hz); omega)))
    go_ret
    exact ⟨rfl, (by repeat (first | exact Below.refl _ _ | with_reducible refine Below.alloc ?_ (by first | (simp; done) | (simp; omega) | omega) _ | with_reducible refine Below.setCell ?_ (by first | (simp; done) | (simp; omega) | omega) _ | with_reducible refine Below.drew ?_ | with_reducible refine Below.trans ?_ (Below.mono (by assumption) (by first | (simp; done) | (simp; omega) | omega))))⟩

set_option maxHeartbeats 400000 in
theorem right_any (x y a b : Int) (w : World) :
    Calls Try.prog 48 #[.agg #[.int .i64 x, .int .i64 y, .int .i64 a, .int .i64 b]] w fun e w' => e = .returned (.int .i64 (wrap64 (x + a))) ∧ Below w.heap.size w w' := by
  go_enter Try.func48, Try.ntmps48
  go_wp2
  go_ret
  exact ⟨rfl, (by repeat (first | exact Below.refl _ _ | with_reducible refine Below.alloc ?_ (by first | (simp; done) | (simp; omega) | omega) _ | with_reducible refine Below.setCell ?_ (by first | (simp; done) | (simp; omega) | omega) _ | with_reducible refine Below.drew ?_ | with_reducible refine Below.trans ?_ (Below.mono (by assumption) (by first | (simp; done) | (simp; omega) | omega))))⟩
set_option maxHeartbeats 400000 in
theorem below_any (x y a b : Int) (w : World) :
    Calls Try.prog 49 #[.agg #[.int .i64 x, .int .i64 y, .int .i64 a, .int .i64 b]] w fun e w' => e = .returned (.int .i64 (wrap64 (y + b))) ∧ Below w.heap.size w w' := by
  go_enter Try.func49, Try.ntmps49
  go_wp2
  go_ret
  exact ⟨rfl, (by repeat (first | exact Below.refl _ _ | with_reducible refine Below.alloc ?_ (by first | (simp; done) | (simp; omega) | omega) _ | with_reducible refine Below.setCell ?_ (by first | (simp; done) | (simp; omega) | omega) _ | with_reducible refine Below.drew ?_ | with_reducible refine Below.trans ?_ (Below.mono (by assumption) (by first | (simp; done) | (simp; omega) | omega))))⟩
theorem right_in (x y a b : Int) (w : World) (h1 : -9000000000000000000 ≤ x + a ∧ x + a ≤ 9000000000000000000) :
    Calls Try.prog 48 #[.agg #[.int .i64 x, .int .i64 y, .int .i64 a, .int .i64 b]] w fun e w' => e = .returned (.int .i64 (x + a)) ∧ Below w.heap.size w w' :=
  (right_any x y a b w).mono fun _ _ ⟨he, hb⟩ => ⟨by rw [he, IntWalk.wrap64_in _ (by omega)], hb⟩
theorem below_in (x y a b : Int) (w : World) (h1 : -9000000000000000000 ≤ y + b ∧ y + b ≤ 9000000000000000000) :
    Calls Try.prog 49 #[.agg #[.int .i64 x, .int .i64 y, .int .i64 a, .int .i64 b]] w fun e w' => e = .returned (.int .i64 (y + b)) ∧ Below w.heap.size w w' :=
  (below_any x y a b w).mono fun _ _ ⟨he, hb⟩ => ⟨by rw [he, IntWalk.wrap64_in _ (by omega)], hb⟩

set_option maxHeartbeats 400000 in
theorem rhas_any (x y a b p q : Int) (w : World) :
    Calls Try.prog 19 #[.agg #[.int .i64 x, .int .i64 y, .int .i64 a, .int .i64 b], .agg #[.int .i64 p, .int .i64 q]] w fun e w' => e = .returned (.bool (has ⟨x, y, a, b⟩ p q)) ∧ Below w.heap.size w w' := by
  cases h : empty ⟨x, y, a, b⟩
  · have hb0 := (empty_iff x y a b).1 h
    by_cases c1 : x ≤ p
    · by_cases c2 : p < x + a
      · by_cases c3 : y ≤ q
        · (go_enter Try.func19, Try.ntmps19; go_wp2; refine region_ext mixed (by kernel_rfl) ?_; (repeat (go_big_quiet_step (first | (go_at_call 15; exact in_ext (rempty_is h _)) | (go_at_call 48; exact in_ext (right_in _ _ _ _ _ (by omega))) | (go_at_call 49; exact in_ext (below_in _ _ _ _ _ (by omega)))))); refine wpQuiet_nil ?_; intro w1 hb1; go_wp2; go_ret; exact ⟨ret_bool (by first | (simp [has, *]; done) | (simp [has, *]; omega)), (by repeat (first | exact Below.refl _ _ | with_reducible refine Below.alloc ?_ (by first | (simp; done) | (simp; omega) | omega) _ | with_reducible refine Below.setCell ?_ (by first | (simp; done) | (simp; omega) | omega) _ | with_reducible refine Below.drew ?_ | with_reducible refine Below.trans ?_ (Below.mono (by assumption) (by first | (simp; done) | (simp; omega) | omega))))⟩)
        · have d3 : decide (y ≤ q) = false := by simpa using c3
          (go_enter Try.func19, Try.ntmps19; go_wp2; refine region_ext mixed (by kernel_rfl) ?_; (repeat (go_big_quiet_step (first | (go_at_call 15; exact in_ext (rempty_is h _)) | (go_at_call 48; exact in_ext (right_in _ _ _ _ _ (by omega))) | (go_at_call 49; exact in_ext (below_in _ _ _ _ _ (by omega)))))); refine wpQuiet_nil ?_; intro w1 hb1; go_wp2; go_ret; exact ⟨ret_bool (by first | (simp [has, *]; done) | (simp [has, *]; omega)), (by repeat (first | exact Below.refl _ _ | with_reducible refine Below.alloc ?_ (by first | (simp; done) | (simp; omega) | omega) _ | with_reducible refine Below.setCell ?_ (by first | (simp; done) | (simp; omega) | omega) _ | with_reducible refine Below.drew ?_ | with_reducible refine Below.trans ?_ (Below.mono (by assumption) (by first | (simp; done) | (simp; omega) | omega))))⟩)
      · have d2 : decide (p < x + a) = false := by simpa using c2
        (go_enter Try.func19, Try.ntmps19; go_wp2; refine region_ext mixed (by kernel_rfl) ?_; (repeat (go_big_quiet_step (first | (go_at_call 15; exact in_ext (rempty_is h _)) | (go_at_call 48; exact in_ext (right_in _ _ _ _ _ (by omega))) | (go_at_call 49; exact in_ext (below_in _ _ _ _ _ (by omega)))))); refine wpQuiet_nil ?_; intro w1 hb1; go_wp2; go_ret; exact ⟨ret_bool (by first | (simp [has, *]; done) | (simp [has, *]; omega)), (by repeat (first | exact Below.refl _ _ | with_reducible refine Below.alloc ?_ (by first | (simp; done) | (simp; omega) | omega) _ | with_reducible refine Below.setCell ?_ (by first | (simp; done) | (simp; omega) | omega) _ | with_reducible refine Below.drew ?_ | with_reducible refine Below.trans ?_ (Below.mono (by assumption) (by first | (simp; done) | (simp; omega) | omega))))⟩)
    · have d1 : decide (x ≤ p) = false := by simpa using c1
      (go_enter Try.func19, Try.ntmps19; go_wp2; refine region_ext mixed (by kernel_rfl) ?_; (repeat (go_big_quiet_step (first | (go_at_call 15; exact in_ext (rempty_is h _)) | (go_at_call 48; exact in_ext (right_in _ _ _ _ _ (by omega))) | (go_at_call 49; exact in_ext (below_in _ _ _ _ _ (by omega)))))); refine wpQuiet_nil ?_; intro w1 hb1; go_wp2; go_ret; exact ⟨ret_bool (by first | (simp [has, *]; done) | (simp [has, *]; omega)), (by repeat (first | exact Below.refl _ _ | with_reducible refine Below.alloc ?_ (by first | (simp; done) | (simp; omega) | omega) _ | with_reducible refine Below.setCell ?_ (by first | (simp; done) | (simp; omega) | omega) _ | with_reducible refine Below.drew ?_ | with_reducible refine Below.trans ?_ (Below.mono (by assumption) (by first | (simp; done) | (simp; omega) | omega))))⟩)
  · (go_enter Try.func19, Try.ntmps19; go_wp2; refine region_ext mixed (by kernel_rfl) ?_; (repeat (go_big_quiet_step (first | (go_at_call 15; exact in_ext (rempty_is h _)) | (go_at_call 48; exact in_ext (right_in _ _ _ _ _ (by omega))) | (go_at_call 49; exact in_ext (below_in _ _ _ _ _ (by omega)))))); refine wpQuiet_nil ?_; intro w1 hb1; go_wp2; go_ret; exact ⟨ret_bool (by first | (simp [has, *]; done) | (simp [has, *]; omega)), (by repeat (first | exact Below.refl _ _ | with_reducible refine Below.alloc ?_ (by first | (simp; done) | (simp; omega) | omega) _ | with_reducible refine Below.setCell ?_ (by first | (simp; done) | (simp; omega) | omega) _ | with_reducible refine Below.drew ?_ | with_reducible refine Below.trans ?_ (Below.mono (by assumption) (by first | (simp; done) | (simp; omega) | omega))))⟩)

set_option maxHeartbeats 400000 in
theorem rfrom_any (x y r b : Int) (w : World) :
    Calls Try.prog 44 #[.int .i64 x, .int .i64 y, .int .i64 r, .int .i64 b] w fun e w' => e = .returned (.agg #[.int .i64 (fromR x y r b).x, .int .i64 (fromR x y r b).y, .int .i64 (fromR x y r b).w, .int .i64 (fromR x y r b).h]) ∧ Below w.heap.size w w' := by
  by_cases h : r ≤ x ∨ b ≤ y
  · rw [show fromR x y r b = ⟨0, 0, 0, 0⟩ from if_pos h]
    by_cases h1 : r ≤ x
    · go_enter Try.func44, Try.ntmps44
      go_wp2
      exact bodyPost_ret (by simp [results, Try.results44, go_sem, *]) rfl ⟨rfl, (by repeat (first | exact Below.refl _ _ | with_reducible refine Below.alloc ?_ (by first | (simp; done) | (simp; omega) | omega) _ | with_reducible refine Below.setCell ?_ (by first | (simp; done) | (simp; omega) | omega) _ | with_reducible refine Below.drew ?_ | with_reducible refine Below.trans ?_ (Below.mono (by assumption) (by first | (simp; done) | (simp; omega) | omega))))⟩
    · have h2 : b ≤ y := by omega
      go_enter Try.func44, Try.ntmps44
      go_wp2
      exact bodyPost_ret (by simp [results, Try.results44, go_sem, *]) rfl ⟨rfl, (by repeat (first | exact Below.refl _ _ | with_reducible refine Below.alloc ?_ (by first | (simp; done) | (simp; omega) | omega) _ | with_reducible refine Below.setCell ?_ (by first | (simp; done) | (simp; omega) | omega) _ | with_reducible refine Below.drew ?_ | with_reducible refine Below.trans ?_ (Below.mono (by assumption) (by first | (simp; done) | (simp; omega) | omega))))⟩
  · rw [show fromR x y r b = ⟨x, y, wrap64 (r - x), wrap64 (b - y)⟩ from if_neg h]
    have h1 : x < r := by omega
    have h2 : y < b := by omega
    clear h
    go_enter Try.func44, Try.ntmps44
    go_wp2
    exact bodyPost_ret (by simp [results, Try.results44, go_sem, *]) rfl ⟨rfl, (by repeat (first | exact Below.refl _ _ | with_reducible refine Below.alloc ?_ (by first | (simp; done) | (simp; omega) | omega) _ | with_reducible refine Below.setCell ?_ (by first | (simp; done) | (simp; omega) | omega) _ | with_reducible refine Below.drew ?_ | with_reducible refine Below.trans ?_ (Below.mono (by assumption) (by first | (simp; done) | (simp; omega) | omega))))⟩
end Go.Proofs.Ytoinjoihkodkeaa
