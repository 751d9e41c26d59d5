/- Layer 1: what the program's leaves and the reference's leaves compute. -/
import Derived.Test.YtoinjoihkodkeaaProg
import Derived.Test.YtoinjoihkodkeaaBase
import Derived.Test.YtoinjoihkodkeaaGeomPlain
namespace Go.Proofs.Ytoinjoihkodkeaa
set_option linter.unusedVariables false
set_option linter.unusedSimpArgs false
open Go.RowKit
attribute [local go_sem] max_fold min_fold

section
variable (w : World) (x y a b p q c d : Int)
theorem run_eql_rect : (binOp .eql 27 (.agg #[.int .i64 x, .int .i64 y, .int .i64 a, .int .i64 b]) (.agg #[.int .i64 p, .int .i64 q, .int .i64 c, .int .i64 d])).run Try.prog w = .ok (.bool (rcEq x y a b p q c d)) w := by
  unfold rcEq
  by_cases h1 : x = p <;> by_cases h2 : y = q <;> by_cases h3 : a = c <;> by_cases h4 : b = d <;> simp [go_sem, h1, h2, h3, h4]
theorem run_neq_rect : (binOp .neq 27 (.agg #[.int .i64 x, .int .i64 y, .int .i64 a, .int .i64 b]) (.agg #[.int .i64 p, .int .i64 q, .int .i64 c, .int .i64 d])).run Try.prog w = .ok (.bool (!rcEq x y a b p q c d)) w := by
  unfold rcEq
  by_cases h1 : x = p <;> by_cases h2 : y = q <;> by_cases h3 : a = c <;> by_cases h4 : b = d <;> simp [go_sem, h1, h2, h3, h4]
end
attribute [go_sem 2000] run_eql_rect run_neq_rect
attribute [go_sem] rcEq_self

theorem mixed : Try.prog.follows .mixedOrders = true := by kernel_rfl

set_option maxHeartbeats 400000 in
theorem within_any (n : Int) (w : World) : Calls Try.prog 41 #[.int .i64 n] w fun e w' => e = .returned (.bool (within n)) ∧ w = w' := by
  go_enter Try.func41, Try.ntmps41
  go_wp2
  all_goals
    go_ret
    exact ⟨ret_bool (by unfold within; first | (simp; omega) | simp [*]), rfl⟩
set_option maxHeartbeats 400000 in
theorem side_any (n : Int) (w : World) : Calls Try.prog 45 #[.int .i64 n] w fun e w' => e = .returned (.bool (side n)) ∧ w = w' := by
  go_enter Try.func45, Try.ntmps45
  go_wp2
  all_goals
    go_ret
    exact ⟨ret_bool (by unfold side; first | (simp; omega) | simp [*]), rfl⟩
set_option maxHeartbeats 400000 in
theorem rwithin_any (n : Int) (w : World) : Calls Try.prog 43 #[.int .i64 n] w fun e w' => e = .returned (.bool (within n)) ∧ w = w' := by
  go_enter Try.func43, Try.ntmps43
  go_wp2
  all_goals
    go_ret
    exact ⟨ret_bool (by unfold within; first | (simp; omega) | simp [*]), rfl⟩
set_option maxHeartbeats 400000 in
theorem rside_any (n : Int) (w : World) : Calls Try.prog 52 #[.int .i64 n] w fun e w' => e = .returned (.bool (side n)) ∧ w = w' := by
  go_enter Try.func52, Try.ntmps52
  go_wp2
  all_goals
    go_ret
    exact ⟨ret_bool (by unfold side; first | (simp; omega) | simp [*]), rfl⟩

set_option maxHeartbeats 400000 in
theorem check_any (x y a b : Int) (w : World) :
    Calls Try.prog 12 #[.agg #[.int .i64 x, .int .i64 y, .int .i64 a, .int .i64 b]] w fun e w' => e = .returned (.int .i64 (checkE ⟨x, y, a, b⟩)) ∧ Below w.heap.size w w' := by
  go_enter Try.func12, Try.ntmps12
  go_wp2_with (first | (go_at_call 41; refine (within_any _ _).mono ?_; rintro e w' ⟨rfl, rfl⟩) | (go_at_call 45; refine (side_any _ _).mono ?_; rintro e w' ⟨rfl, rfl⟩))
  all_goals
    go_ret
    refine ⟨ret_int ?_, (by repeat (first | exact Below.refl _ _ | with_reducible refine Below.alloc ?_ (by first | (simp; done) | (simp; omega) | omega) _ | with_reducible refine Below.setCell ?_ (by first | (simp; done) | (simp; omega) | omega) _ | with_reducible refine Below.drew ?_ | with_reducible refine Below.trans ?_ (Below.mono (by assumption) (by first | (simp; done) | (simp; omega) | omega))))⟩
    first | exact ((check_close (by assumption) (by assumption) (by assumption) (by assumption) rfl).1 (by assumption)).symm | exact ((check_close (by assumption) (by assumption) (by assumption) (by assumption) rfl).2 (by assumption)).symm | (simp [checkE, may, *]; done)

set_option maxHeartbeats 400000 in
theorem ends_any (x y a b : Int) (w : World) :
    Calls Try.prog 47 #[.agg #[.int .i64 x, .int .i64 y, .int .i64 a, .int .i64 b]] w fun e w' => e = .returned (.tuple #[.int .i64 (wrap64 (x + a)), .int .i64 (wrap64 (y + b))]) ∧ Below w.heap.size w w' := by
  go_enter Try.func47, Try.ntmps47
  go_wp2
  refine region_ext mixed (by kernel_rfl) ?_
  repeat (go_big_quiet_step (fail))
  refine wpQuiet_nil ?_
  intro w1 hb1
  go_wp2
  go_ret2
  exact ⟨rfl, (by repeat (first | exact Below.refl _ _ | with_reducible refine Below.alloc ?_ (by first | (simp; done) | (simp; omega) | omega) _ | with_reducible refine Below.setCell ?_ (by first | (simp; done) | (simp; omega) | omega) _ | with_reducible refine Below.drew ?_ | with_reducible refine Below.trans ?_ (Below.mono (by assumption) (by first | (simp; done) | (simp; omega) | omega))))⟩
theorem ends_in (x y a b : Int) (w : World) (h1 : -9000000000000000000 ≤ x + a ∧ x + a ≤ 9000000000000000000) (h2 : -9000000000000000000 ≤ y + b ∧ y + b ≤ 9000000000000000000) :
    Calls Try.prog 47 #[.agg #[.int .i64 x, .int .i64 y, .int .i64 a, .int .i64 b]] w fun e w' => e = .returned (.tuple #[.int .i64 (x + a), .int .i64 (y + b)]) ∧ Below w.heap.size w w' :=
  (ends_any x y a b w).mono fun _ _ ⟨he, hb⟩ => ⟨by rw [he, IntWalk.wrap64_in _ (by omega), IntWalk.wrap64_in _ (by omega)], hb⟩

set_option maxHeartbeats 400000 in
theorem from_any (x y r b : Int) (w : World) :
    Calls Try.prog 42 #[.int .i64 x, .int .i64 y, .int .i64 r, .int .i64 b] w fun e w' => e = .returned (.agg #[.int .i64 (fromR x y r b).x, .int .i64 (fromR x y r b).y, .int .i64 (fromR x y r b).w, .int .i64 (fromR x y r b).h]) ∧ Below w.heap.size w w' := by
  by_cases h : r ≤ x ∨ b ≤ y
  · rw [show fromR x y r b = ⟨0, 0, 0, 0⟩ from if_pos h]
    by_cases h1 : r ≤ x
    · go_enter Try.func42, Try.ntmps42
      go_wp2
      exact bodyPost_ret (v := .agg #[.int .i64 0, .int .i64 0, .int .i64 0, .int .i64 0]) (by simp [results, Try.results42, go_sem]) rfl ⟨rfl, (by repeat (first | exact Below.refl _ _ | with_reducible refine Below.alloc ?_ (by first | (simp; done) | (simp; omega) | omega) _ | with_reducible refine Below.setCell ?_ (by first | (simp; done) | (simp; omega) | omega) _ | with_reducible refine Below.drew ?_ | with_reducible refine Below.trans ?_ (Below.mono (by assumption) (by first | (simp; done) | (simp; omega) | omega))))⟩
    · have h2 : b ≤ y := by omega
      go_enter Try.func42, Try.ntmps42
      go_wp2
      exact bodyPost_ret (v := .agg #[.int .i64 0, .int .i64 0, .int .i64 0, .int .i64 0]) (by simp [results, Try.results42, go_sem]) rfl ⟨rfl, (by repeat (first | exact Below.refl _ _ | with_reducible refine Below.alloc ?_ (by first | (simp; done) | (simp; omega) | omega) _ | with_reducible refine Below.setCell ?_ (by first | (simp; done) | (simp; omega) | omega) _ | with_reducible refine Below.drew ?_ | with_reducible refine Below.trans ?_ (Below.mono (by assumption) (by first | (simp; done) | (simp; omega) | omega))))⟩
  · rw [show fromR x y r b = ⟨x, y, wrap64 (r - x), wrap64 (b - y)⟩ from if_neg h]
    have h1 : x < r := by omega
    have h2 : y < b := by omega
    clear h
    go_enter Try.func42, Try.ntmps42
    go_wp2
    exact bodyPost_ret (v := .agg #[.int .i64 x, .int .i64 y, .int .i64 (wrap64 (r - x)), .int .i64 (wrap64 (b - y))]) (by simp [results, Try.results42, go_sem]) rfl ⟨rfl, (by repeat (first | exact Below.refl _ _ | with_reducible refine Below.alloc ?_ (by first | (simp; done) | (simp; omega) | omega) _ | with_reducible refine Below.setCell ?_ (by first | (simp; done) | (simp; omega) | omega) _ | with_reducible refine Below.drew ?_ | with_reducible refine Below.trans ?_ (Below.mono (by assumption) (by first | (simp; done) | (simp; omega) | omega))))⟩

theorem area_eq {x y a b : Int} (h : may ⟨x, y, a, b⟩ = true) : area ⟨x, y, a, b⟩ = wrap64 (a * b) := by
  have hm := (may_iff x y a b).1 h
  have := mul_bd hm.2.2.1 hm.2.2.2.1
  rw [IntWalk.wrap64_in _ (by omega)]
  unfold area
  split
  · rename_i he
    simp [empty, h] at he
    rcases he with he | he <;> simp [he]
  · rfl
theorem area_no {x y a b : Int} (h : may ⟨x, y, a, b⟩ = false) : area ⟨x, y, a, b⟩ = 0 := by simp [area, empty, h]
theorem chk_t {r : Rc} (h : (checkE r != 0) = true) : may r = false := by
  unfold checkE at h
  cases hm : may r <;> simp_all
theorem chk_f {r : Rc} (h : (checkE r != 0) = false) : may r = true := by
  unfold checkE at h
  cases hm : may r <;> simp_all
theorem area_zero {r : Rc} : (area r == 0) = empty r := by
  unfold area
  split
  · simp_all
  · rename_i h
    have he : empty r = false := by simpa using h
    have h2 := (empty_iff r.x r.y r.w r.h).1 he
    rw [he]
    have := Int.mul_pos (a := r.w) (b := r.h) (by omega) (by omega)
    simp
    omega

set_option maxHeartbeats 400000 in
theorem area_any (x y a b : Int) (w : World) :
    Calls Try.prog 16 #[.agg #[.int .i64 x, .int .i64 y, .int .i64 a, .int .i64 b]] w fun e w' => e = .returned (.int .i64 (area ⟨x, y, a, b⟩)) ∧ Below w.heap.size w w' := by
  go_enter Try.func16, Try.ntmps16
  go_wp2_with (first | (go_at_call 12; refine (check_any _ _ _ _ _).mono ?_; rintro e w1 ⟨rfl, hb⟩; (first | (have hP1 := hP.trans (hb.mono hP.size); clear hP hb hc hf z0; have hP := hP1; clear hP1) | (have hP := hb; clear hb)); obtain ⟨hc, hf⟩ := bcell hP; have z0 : w.heap.size < w1.heap.size := (by have hz := hP.size; (try simp at hz); omega)))
  all_goals
    go_ret
    exact ⟨ret_int (by first | rw [area_no (chk_t (by assumption))] | rw [area_eq (chk_f (by assumption))]), (by repeat (first | exact Below.refl _ _ | with_reducible refine Below.alloc ?_ (by first | (simp; done) | (simp; omega) | omega) _ | with_reducible refine Below.setCell ?_ (by first | (simp; done) | (simp; omega) | omega) _ | with_reducible refine Below.drew ?_ | with_reducible refine Below.trans ?_ (Below.mono (by assumption) (by first | (simp; done) | (simp; omega) | omega))))⟩

set_option maxHeartbeats 400000 in
theorem empty_any (x y a b : Int) (w : World) :
    Calls Try.prog 14 #[.agg #[.int .i64 x, .int .i64 y, .int .i64 a, .int .i64 b]] w fun e w' => e = .returned (.bool (empty ⟨x, y, a, b⟩)) ∧ Below w.heap.size w w' := by
  go_enter Try.func14, Try.ntmps14
  go_wp2_with (first | (go_at_call 16; refine (area_any _ _ _ _ _).mono ?_; rintro e w1 ⟨rfl, hb⟩; (first | (have hP1 := hP.trans (hb.mono hP.size); clear hP hb hc hf z0; have hP := hP1; clear hP1) | (have hP := hb; clear hb)); obtain ⟨hc, hf⟩ := bcell hP; have z0 : w.heap.size < w1.heap.size := (by have hz := hP.size; (try simp at hz); omega)))
  go_ret
  exact ⟨ret_bool area_zero, (by repeat (first | exact Below.refl _ _ | with_reducible refine Below.alloc ?_ (by first | (simp; done) | (simp; omega) | omega) _ | with_reducible refine Below.setCell ?_ (by first | (simp; done) | (simp; omega) | omega) _ | with_reducible refine Below.drew ?_ | with_reducible refine Below.trans ?_ (Below.mono (by assumption) (by first | (simp; done) | (simp; omega) | omega))))⟩

theorem empty_is {x y a b : Int} {v : Bool} (h : empty ⟨x, y, a, b⟩ = v) (w : World) :
    Calls Try.prog 14 #[.agg #[.int .i64 x, .int .i64 y, .int .i64 a, .int .i64 b]] w fun e w' => e = .returned (.bool v) ∧ Below w.heap.size w w' := h ▸ empty_any x y a b w

set_option maxHeartbeats 400000 in
theorem has_any (x y a b p q : Int) (w : World) :
    Calls Try.prog 18 #[.agg #[.int .i64 x, .int .i64 y, .int .i64 a, .int .i64 b], .agg #[.int .i64 p, .int .i64 q]] w fun e w' => e = .returned (.bool (has ⟨x, y, a, b⟩ p q)) ∧ Below w.heap.size w w' := by
  by_cases h : empty ⟨x, y, a, b⟩ = true
  · go_enter Try.func18, Try.ntmps18
    go_wp2_with (first | (go_at_call 47; refine (ends_any _ _ _ _ _).mono ?_; rintro e w1 ⟨rfl, hb⟩; (first | (have hP1 := hP.trans (hb.mono hP.size); clear hP hb hc hf z0 z1; have hP := hP1; clear hP1) | (have hP := hb; clear hb)); obtain ⟨hc, hf⟩ := bcell hP; have z0 : w.heap.size < w1.heap.size := (by have hz := hP.size; (try simp at hz); omega); have z1 : w.heap.size + 1 < w1.heap.size := (by have hz := hP.size; (try simp at hz); omega)) | (go_at_call 14; refine (empty_any _ _ _ _ _).mono ?_; rintro e w1 ⟨rfl, hb⟩; (first | (have hP1 := hP.trans (hb.mono hP.size); clear hP hb hc hf z0 z1; have hP := hP1; clear hP1) | (have hP := hb; clear hb)); obtain ⟨hc, hf⟩ := bcell hP; have z0 : w.heap.size < w1.heap.size := (by have hz := hP.size; (try simp at hz); omega); have z1 : w.heap.size + 1 < w1.heap.size := (by have hz := hP.size; (try simp at hz); omega)))
    go_ret
    exact ⟨ret_bool (by simp [has, h]), (by repeat (first | exact Below.refl _ _ | with_reducible refine Below.alloc ?_ (by first | (simp; done) | (simp; omega) | omega) _ | with_reducible refine Below.setCell ?_ (by first | (simp; done) | (simp; omega) | omega) _ | with_reducible refine Below.drew ?_ | with_reducible refine Below.trans ?_ (Below.mono (by assumption) (by first | (simp; done) | (simp; omega) | omega))))⟩
  · have h' : empty ⟨x, y, a, b⟩ = false := by simpa using h
    have hb0 := (empty_iff x y a b).1 h'
    clear h
    go_enter Try.func18, Try.ntmps18
    go_wp2_with (first | (go_at_call 47; refine (ends_in _ _ _ _ _ (by omega) (by omega)).mono ?_; rintro e w1 ⟨rfl, hb⟩; (first | (have hP1 := hP.trans (hb.mono hP.size); clear hP hb hc hf z0 z1; have hP := hP1; clear hP1) | (have hP := hb; clear hb)); obtain ⟨hc, hf⟩ := bcell hP; have z0 : w.heap.size < w1.heap.size := (by have hz := hP.size; (try simp at hz); omega); have z1 : w.heap.size + 1 < w1.heap.size := (by have hz := hP.size; (try simp at hz); omega)) | (go_at_call 14; refine (empty_any _ _ _ _ _).mono ?_; rintro e w1 ⟨rfl, hb⟩; (first | (have hP1 := hP.trans (hb.mono hP.size); clear hP hb hc hf z0 z1; have hP := hP1; clear hP1) | (have hP := hb; clear hb)); obtain ⟨hc, hf⟩ := bcell hP; have z0 : w.heap.size < w1.heap.size := (by have hz := hP.size; (try simp at hz); omega); have z1 : w.heap.size + 1 < w1.heap.size := (by have hz := hP.size; (try simp at hz); omega)))
    all_goals
      go_ret
      exact ⟨ret_bool (by first | (simp [has, *]; done) | (simp [has, *]; omega)), (by repeat (first | exact Below.refl _ _ | with_reducible refine Below.alloc ?_ (by first | (simp; done) | (simp; omega) | omega) _ | with_reducible refine Below.setCell ?_ (by first | (simp; done) | (simp; omega) | omega) _ | with_reducible refine Below.drew ?_ | with_reducible refine Below.trans ?_ (Below.mono (by assumption) (by first | (simp; done) | (simp; omega) | omega))))⟩

set_option maxHeartbeats 400000 in
theorem meet_any (x y a b p q c d : Int) (w : World) :
    Calls Try.prog 35 #[.agg #[.int .i64 x, .int .i64 y, .int .i64 a, .int .i64 b], .agg #[.int .i64 p, .int .i64 q, .int .i64 c, .int .i64 d]] w fun e w' =>
      e = .returned (.agg #[.int .i64 (meet ⟨x, y, a, b⟩ ⟨p, q, c, d⟩).x, .int .i64 (meet ⟨x, y, a, b⟩ ⟨p, q, c, d⟩).y, .int .i64 (meet ⟨x, y, a, b⟩ ⟨p, q, c, d⟩).w, .int .i64 (meet ⟨x, y, a, b⟩ ⟨p, q, c, d⟩).h]) ∧ Below w.heap.size w w' := by
  by_cases h : empty ⟨x, y, a, b⟩ = true
  · rw [show meet ⟨x, y, a, b⟩ ⟨p, q, c, d⟩ = ⟨0, 0, 0, 0⟩ by simp [meet, h, zero]]
    go_enter Try.func35, Try.ntmps35
    go_wp2_with (first | (go_at_call 14; refine (empty_any _ _ _ _ _).mono ?_; rintro e w1 ⟨rfl, hb⟩; (first | (have hP1 := hP.trans (hb.mono hP.size); clear hP hb hc hf z0 z1 z2; have hP := hP1; clear hP1) | (have hP := hb; clear hb)); obtain ⟨hc, hf⟩ := bcell hP; have z0 : w.heap.size < w1.heap.size := (by have hz := hP.size; (try simp at hz); omega); have z1 : w.heap.size + 1 < w1.heap.size := (by have hz := hP.size; (try simp at hz); omega); have z2 : w.heap.size + 2 < w1.heap.size := (by have hz := hP.size; (try simp at hz); omega)))
    exact bodyPost_ret (by simp [results, Try.results35, go_sem, *]) rfl ⟨rfl, (by repeat (first | exact Below.refl _ _ | with_reducible refine Below.alloc ?_ (by first | (simp; done) | (simp; omega) | omega) _ | with_reducible refine Below.setCell ?_ (by first | (simp; done) | (simp; omega) | omega) _ | with_reducible refine Below.drew ?_ | with_reducible refine Below.trans ?_ (Below.mono (by assumption) (by first | (simp; done) | (simp; omega) | omega))))⟩
  · have h1 : empty ⟨x, y, a, b⟩ = false := by simpa using h
    clear h
    by_cases h : empty ⟨p, q, c, d⟩ = true
    · rw [show meet ⟨x, y, a, b⟩ ⟨p, q, c, d⟩ = ⟨0, 0, 0, 0⟩ by simp [meet, h, zero]]
      go_enter Try.func35, Try.ntmps35
      go_wp2_with (first | (go_at_call 14; refine (empty_any _ _ _ _ _).mono ?_; rintro e w1 ⟨rfl, hb⟩; (first | (have hP1 := hP.trans (hb.mono hP.size); clear hP hb hc hf z0 z1 z2; have hP := hP1; clear hP1) | (have hP := hb; clear hb)); obtain ⟨hc, hf⟩ := bcell hP; have z0 : w.heap.size < w1.heap.size := (by have hz := hP.size; (try simp at hz); omega); have z1 : w.heap.size + 1 < w1.heap.size := (by have hz := hP.size; (try simp at hz); omega); have z2 : w.heap.size + 2 < w1.heap.size := (by have hz := hP.size; (try simp at hz); omega)))
      exact bodyPost_ret (by simp [results, Try.results35, go_sem, *]) rfl ⟨rfl, (by repeat (first | exact Below.refl _ _ | with_reducible refine Below.alloc ?_ (by first | (simp; done) | (simp; omega) | omega) _ | with_reducible refine Below.setCell ?_ (by first | (simp; done) | (simp; omega) | omega) _ | with_reducible refine Below.drew ?_ | with_reducible refine Below.trans ?_ (Below.mono (by assumption) (by first | (simp; done) | (simp; omega) | omega))))⟩
    · have h2 : empty ⟨p, q, c, d⟩ = false := by simpa using h
      have hb1 := (empty_iff x y a b).1 h1
      have hb2 := (empty_iff p q c d).1 h2
      clear h
      rw [show meet ⟨x, y, a, b⟩ ⟨p, q, c, d⟩ = fromR (max x p) (max y q) (min (x + a) (p + c)) (min (y + b) (q + d)) by simp [meet, h1, h2]]
      go_enter Try.func35, Try.ntmps35
      go_wp2_with (first | (go_at_call 14; refine (empty_any _ _ _ _ _).mono ?_; rintro e w1 ⟨rfl, hb⟩; (first | (have hP1 := hP.trans (hb.mono hP.size); clear hP hb hc hf z0 z1 z2; have hP := hP1; clear hP1) | (have hP := hb; clear hb)); obtain ⟨hc, hf⟩ := bcell hP; have z0 : w.heap.size < w1.heap.size := (by have hz := hP.size; (try simp at hz); omega); have z1 : w.heap.size + 1 < w1.heap.size := (by have hz := hP.size; (try simp at hz); omega); have z2 : w.heap.size + 2 < w1.heap.size := (by have hz := hP.size; (try simp at hz); omega)) | (go_at_call 47; refine (ends_in _ _ _ _ _ (by omega) (by omega)).mono ?_; rintro e w1 ⟨rfl, hb⟩; (first | (have hP1 := hP.trans (hb.mono hP.size); clear hP hb hc hf z0 z1 z2; have hP := hP1; clear hP1) | (have hP := hb; clear hb)); obtain ⟨hc, hf⟩ := bcell hP; have z0 : w.heap.size < w1.heap.size := (by have hz := hP.size; (try simp at hz); omega); have z1 : w.heap.size + 1 < w1.heap.size := (by have hz := hP.size; (try simp at hz); omega); have z2 : w.heap.size + 2 < w1.heap.size := (by have hz := hP.size; (try simp at hz); omega)) | (go_at_call 42; refine (from_any _ _ _ _ _).mono ?_; rintro e w1 ⟨rfl, hb⟩; (first | (have hP1 := hP.trans (hb.mono hP.size); clear hP hb hc hf z0 z1 z2; have hP := hP1; clear hP1) | (have hP := hb; clear hb)); obtain ⟨hc, hf⟩ := bcell hP; have z0 : w.heap.size < w1.heap.size := (by have hz := hP.size; (try simp at hz); omega); have z1 : w.heap.size + 1 < w1.heap.size := (by have hz := hP.size; (try simp at hz); omega); have z2 : w.heap.size + 2 < w1.heap.size := (by have hz := hP.size; (try simp at hz); omega)))
      exact bodyPost_ret (by simp [results, Try.results35, go_sem, *]) rfl ⟨rfl, (by repeat (first | exact Below.refl _ _ | with_reducible refine Below.alloc ?_ (by first | (simp; done) | (simp; omega) | omega) _ | with_reducible refine Below.setCell ?_ (by first | (simp; done) | (simp; omega) | omega) _ | with_reducible refine Below.drew ?_ | with_reducible refine Below.trans ?_ (Below.mono (by assumption) (by first | (simp; done) | (simp; omega) | omega))))⟩

set_option maxHeartbeats 400000 in
theorem join_any (x y a b p q c d : Int) (w : World) :
    Calls Try.prog 26 #[.agg #[.int .i64 x, .int .i64 y, .int .i64 a, .int .i64 b], .agg #[.int .i64 p, .int .i64 q, .int .i64 c, .int .i64 d]] w fun e w' =>
      e = .returned (.agg #[.int .i64 (join ⟨x, y, a, b⟩ ⟨p, q, c, d⟩).x, .int .i64 (join ⟨x, y, a, b⟩ ⟨p, q, c, d⟩).y, .int .i64 (join ⟨x, y, a, b⟩ ⟨p, q, c, d⟩).w, .int .i64 (join ⟨x, y, a, b⟩ ⟨p, q, c, d⟩).h]) ∧ Below w.heap.size w w' := by
  cases h1 : empty ⟨x, y, a, b⟩ <;> cases h2 : empty ⟨p, q, c, d⟩
  · rw [show join ⟨x, y, a, b⟩ ⟨p, q, c, d⟩ = fromR (min x p) (min y q) (max (x + a) (p + c)) (max (y + b) (q + d)) by simp [join, h1, h2]]
    have hb1 := (empty_iff x y a b).1 h1
    have hb2 := (empty_iff p q c d).1 h2
    go_enter Try.func26, Try.ntmps26
    go_wp2_with (first | (go_at_call 14; refine (empty_any _ _ _ _ _).mono ?_; rintro e w1 ⟨rfl, hb⟩; (first | (have hP1 := hP.trans (hb.mono hP.size); clear hP hb hc hf z0 z1 z2; have hP := hP1; clear hP1) | (have hP := hb; clear hb)); obtain ⟨hc, hf⟩ := bcell hP; have z0 : w.heap.size < w1.heap.size := (by have hz := hP.size; (try simp at hz); omega); have z1 : w.heap.size + 1 < w1.heap.size := (by have hz := hP.size; (try simp at hz); omega); have z2 : w.heap.size + 2 < w1.heap.size := (by have hz := hP.size; (try simp at hz); omega)) | (go_at_call 47; refine (ends_in _ _ _ _ _ (by omega) (by omega)).mono ?_; rintro e w1 ⟨rfl, hb⟩; (first | (have hP1 := hP.trans (hb.mono hP.size); clear hP hb hc hf z0 z1 z2; have hP := hP1; clear hP1) | (have hP := hb; clear hb)); obtain ⟨hc, hf⟩ := bcell hP; have z0 : w.heap.size < w1.heap.size := (by have hz := hP.size; (try simp at hz); omega); have z1 : w.heap.size + 1 < w1.heap.size := (by have hz := hP.size; (try simp at hz); omega); have z2 : w.heap.size + 2 < w1.heap.size := (by have hz := hP.size; (try simp at hz); omega)) | (go_at_call 42; refine (from_any _ _ _ _ _).mono ?_; rintro e w1 ⟨rfl, hb⟩; (first | (have hP1 := hP.trans (hb.mono hP.size); clear hP hb hc hf z0 z1 z2; have hP := hP1; clear hP1) | (have hP := hb; clear hb)); obtain ⟨hc, hf⟩ := bcell hP; have z0 : w.heap.size < w1.heap.size := (by have hz := hP.size; (try simp at hz); omega); have z1 : w.heap.size + 1 < w1.heap.size := (by have hz := hP.size; (try simp at hz); omega); have z2 : w.heap.size + 2 < w1.heap.size := (by have hz := hP.size; (try simp at hz); omega)))
    exact bodyPost_ret (by simp [results, Try.results26, go_sem, *]) rfl ⟨rfl, (by repeat (first | exact Below.refl _ _ | with_reducible refine Below.alloc ?_ (by first | (simp; done) | (simp; omega) | omega) _ | with_reducible refine Below.setCell ?_ (by first | (simp; done) | (simp; omega) | omega) _ | with_reducible refine Below.drew ?_ | with_reducible refine Below.trans ?_ (Below.mono (by assumption) (by first | (simp; done) | (simp; omega) | omega))))⟩
  · rw [show join ⟨x, y, a, b⟩ ⟨p, q, c, d⟩ = ⟨x, y, a, b⟩ by simp [join, h1, h2]]
    go_enter Try.func26, Try.ntmps26
    go_wp2_with (first | (go_at_call 14; refine (empty_any _ _ _ _ _).mono ?_; rintro e w1 ⟨rfl, hb⟩; (first | (have hP1 := hP.trans (hb.mono hP.size); clear hP hb hc hf z0 z1 z2; have hP := hP1; clear hP1) | (have hP := hb; clear hb)); obtain ⟨hc, hf⟩ := bcell hP; have z0 : w.heap.size < w1.heap.size := (by have hz := hP.size; (try simp at hz); omega); have z1 : w.heap.size + 1 < w1.heap.size := (by have hz := hP.size; (try simp at hz); omega); have z2 : w.heap.size + 2 < w1.heap.size := (by have hz := hP.size; (try simp at hz); omega)))
    exact bodyPost_ret (by simp [results, Try.results26, go_sem, *]) rfl ⟨rfl, (by repeat (first | exact Below.refl _ _ | with_reducible refine Below.alloc ?_ (by first | (simp; done) | (simp; omega) | omega) _ | with_reducible refine Below.setCell ?_ (by first | (simp; done) | (simp; omega) | omega) _ | with_reducible refine Below.drew ?_ | with_reducible refine Below.trans ?_ (Below.mono (by assumption) (by first | (simp; done) | (simp; omega) | omega))))⟩
  · rw [show join ⟨x, y, a, b⟩ ⟨p, q, c, d⟩ = ⟨p, q, c, d⟩ by simp [join, h1, h2]]
    go_enter Try.func26, Try.ntmps26
    go_wp2_with (first | (go_at_call 14; refine (empty_any _ _ _ _ _).mono ?_; rintro e w1 ⟨rfl, hb⟩; (first | (have hP1 := hP.trans (hb.mono hP.size); clear hP hb hc hf z0 z1 z2; have hP := hP1; clear hP1) | (have hP := hb; clear hb)); obtain ⟨hc, hf⟩ := bcell hP; have z0 : w.heap.size < w1.heap.size := (by have hz := hP.size; (try simp at hz); omega); have z1 : w.heap.size + 1 < w1.heap.size := (by have hz := hP.size; (try simp at hz); omega); have z2 : w.heap.size + 2 < w1.heap.size := (by have hz := hP.size; (try simp at hz); omega)))
    exact bodyPost_ret (by simp [results, Try.results26, go_sem, *]) rfl ⟨rfl, (by repeat (first | exact Below.refl _ _ | with_reducible refine Below.alloc ?_ (by first | (simp; done) | (simp; omega) | omega) _ | with_reducible refine Below.setCell ?_ (by first | (simp; done) | (simp; omega) | omega) _ | with_reducible refine Below.drew ?_ | with_reducible refine Below.trans ?_ (Below.mono (by assumption) (by first | (simp; done) | (simp; omega) | omega))))⟩
  · rw [show join ⟨x, y, a, b⟩ ⟨p, q, c, d⟩ = ⟨0, 0, 0, 0⟩ by simp [join, h1, h2, zero]]
    go_enter Try.func26, Try.ntmps26
    go_wp2_with (first | (go_at_call 14; refine (empty_any _ _ _ _ _).mono ?_; rintro e w1 ⟨rfl, hb⟩; (first | (have hP1 := hP.trans (hb.mono hP.size); clear hP hb hc hf z0 z1 z2; have hP := hP1; clear hP1) | (have hP := hb; clear hb)); obtain ⟨hc, hf⟩ := bcell hP; have z0 : w.heap.size < w1.heap.size := (by have hz := hP.size; (try simp at hz); omega); have z1 : w.heap.size + 1 < w1.heap.size := (by have hz := hP.size; (try simp at hz); omega); have z2 : w.heap.size + 2 < w1.heap.size := (by have hz := hP.size; (try simp at hz); omega)))
    exact bodyPost_ret (by simp [results, Try.results26, go_sem, *]) rfl ⟨rfl, (by repeat (first | exact Below.refl _ _ | with_reducible refine Below.alloc ?_ (by first | (simp; done) | (simp; omega) | omega) _ | with_reducible refine Below.setCell ?_ (by first | (simp; done) | (simp; omega) | omega) _ | with_reducible refine Below.drew ?_ | with_reducible refine Below.trans ?_ (Below.mono (by assumption) (by first | (simp; done) | (simp; omega) | omega))))⟩

end Go.Proofs.Ytoinjoihkodkeaa
