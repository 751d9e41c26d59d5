/- Layer 1: Go's functions over rectangles, by those of GeomA. -/
import Derived.Test.YtoinjoihkodkeaaGeomA
namespace Go.Proofs.Ytoinjoihkodkeaa
set_option linter.unusedVariables false
set_option linter.unusedSimpArgs false
open Go.RowKit
attribute [local go_sem] max_fold min_fold

theorem rc_eq (r : Rc) (x y a b : Int) : r = ⟨x, y, a, b⟩ ↔ r.x = x ∧ r.y = y ∧ r.w = a ∧ r.h = b := by
  cases r
  simp
set_option maxHeartbeats 400000 in
theorem in_any (x y a b p q c d : Int) (w : World) :
    Calls Try.prog 31 #[.agg #[.int .i64 x, .int .i64 y, .int .i64 a, .int .i64 b], .agg #[.int .i64 p, .int .i64 q, .int .i64 c, .int .i64 d]] w fun e w' => e = .returned (.bool (inR ⟨x, y, a, b⟩ ⟨p, q, c, d⟩)) ∧ Below w.heap.size w w' := by
  cases h1 : empty ⟨x, y, a, b⟩
  · go_enter Try.func31, Try.ntmps31
    go_wp2
    refine region_ext mixed (by kernel_rfl) ?_
    repeat (go_big_quiet_step (first | (go_at_call 14; exact in_ext (empty_is h1 _)) | (go_at_call 35; exact in_ext (meet_any _ _ _ _ _ _ _ _ _))))
    refine wpQuiet_nil ?_
    intro w1 hb1
    go_wp2
    go_ret
    exact ⟨ret_bool (by rw [rcEq_iff']; simp [inR, h1]), (by repeat (first | exact Below.refl _ _ | with_reducible refine Below.alloc ?_ (by first | (simp; done) | (simp; omega) | omega) _ | with_reducible refine Below.setCell ?_ (by first | (simp; done) | (simp; omega) | omega) _ | with_reducible refine Below.drew ?_ | with_reducible refine Below.trans ?_ (Below.mono (by assumption) (by first | (simp; done) | (simp; omega) | omega))))⟩
  · go_enter Try.func31, Try.ntmps31
    go_wp2
    refine region_ext mixed (by kernel_rfl) ?_
    repeat (go_big_quiet_step (first | (go_at_call 14; exact in_ext (empty_is h1 _)) | (go_at_call 35; exact in_ext (meet_any _ _ _ _ _ _ _ _ _))))
    refine wpQuiet_nil ?_
    intro w1 hb1
    go_wp2
    go_ret
    exact ⟨ret_bool (by simp [inR, h1]), (by repeat (first | exact Below.refl _ _ | with_reducible refine Below.alloc ?_ (by first | (simp; done) | (simp; omega) | omega) _ | with_reducible refine Below.setCell ?_ (by first | (simp; done) | (simp; omega) | omega) _ | with_reducible refine Below.drew ?_ | with_reducible refine Below.trans ?_ (Below.mono (by assumption) (by first | (simp; done) | (simp; omega) | omega))))⟩

set_option maxHeartbeats 400000 in
theorem over_any (x y a b p q c d : Int) (w : World) :
    Calls Try.prog 33 #[.agg #[.int .i64 x, .int .i64 y, .int .i64 a, .int .i64 b], .agg #[.int .i64 p, .int .i64 q, .int .i64 c, .int .i64 d]] w fun e w' => e = .returned (.bool (over ⟨x, y, a, b⟩ ⟨p, q, c, d⟩)) ∧ Below w.heap.size w w' := by
  go_enter Try.func33, Try.ntmps33
  go_wp2_with (first | (go_at_call 35; refine (meet_any _ _ _ _ _ _ _ _ _).mono ?_; rintro e w1 ⟨rfl, hb⟩; (first | (have hP1 := hP.trans (hb.mono hP.size); clear hP hb hc hf z0 z1; have hP := hP1; clear hP1) | (have hP := hb; clear hb)); obtain ⟨hc, hf⟩ := bcell hP; have z0 : w.heap.size < w1.heap.size := (by have hz := hP.size; (try simp at hz); omega); have z1 : w.heap.size + 1 < w1.heap.size := (by have hz := hP.size; (try simp at hz); omega)))
  go_ret
  exact ⟨ret_bool (by rw [rcEq_iff']; rfl), (by repeat (first | exact Below.refl _ _ | with_reducible refine Below.alloc ?_ (by first | (simp; done) | (simp; omega) | omega) _ | with_reducible refine Below.setCell ?_ (by first | (simp; done) | (simp; omega) | omega) _ | with_reducible refine Below.drew ?_ | with_reducible refine Below.trans ?_ (Below.mono (by assumption) (by first | (simp; done) | (simp; omega) | omega))))⟩

set_option maxHeartbeats 400000 in
theorem fit_any (x y a b : Int) (w : World) :
    Calls Try.prog 50 #[.agg #[.int .i64 x, .int .i64 y, .int .i64 a, .int .i64 b]] w fun e w' =>
      e = .returned (.tuple #[.agg #[.int .i64 (fitR ⟨x, y, a, b⟩).x, .int .i64 (fitR ⟨x, y, a, b⟩).y, .int .i64 (fitR ⟨x, y, a, b⟩).w, .int .i64 (fitR ⟨x, y, a, b⟩).h], .int .i64 (fitE ⟨x, y, a, b⟩)]) ∧ Below w.heap.size w w' := by
  cases h1 : may ⟨x, y, a, b⟩
  · rw [show fitR ⟨x, y, a, b⟩ = ⟨0, 0, 0, 0⟩ by simp [fitR, h1, zero], show fitE ⟨x, y, a, b⟩ = 9 by simp [fitE, h1]]
    have hk : checkE ⟨x, y, a, b⟩ = 5 := by simp [checkE, h1]
    go_enter Try.func50, Try.ntmps50
    go_wp2_with (first | (go_at_call 12; refine (check_any _ _ _ _ _).mono ?_; rintro e w1 ⟨rfl, hb⟩; (first | (have hP1 := hP.trans (hb.mono hP.size); clear hP hb hc hf z0 z1; have hP := hP1; clear hP1) | (have hP := hb; clear hb)); obtain ⟨hc, hf⟩ := bcell hP; have z0 : w.heap.size < w1.heap.size := (by have hz := hP.size; (try simp at hz); omega); have z1 : w.heap.size + 1 < w1.heap.size := (by have hz := hP.size; (try simp at hz); omega)))
    exact bodyPost_ret (by simp [results, Try.results50, go_sem, *]) rfl ⟨rfl, (by repeat (first | exact Below.refl _ _ | with_reducible refine Below.alloc ?_ (by first | (simp; done) | (simp; omega) | omega) _ | with_reducible refine Below.setCell ?_ (by first | (simp; done) | (simp; omega) | omega) _ | with_reducible refine Below.drew ?_ | with_reducible refine Below.trans ?_ (Below.mono (by assumption) (by first | (simp; done) | (simp; omega) | omega))))⟩
  · rw [show fitR ⟨x, y, a, b⟩ = ⟨x, y, a, b⟩ by simp [fitR, h1], show fitE ⟨x, y, a, b⟩ = 0 by simp [fitE, h1]]
    have hk : checkE ⟨x, y, a, b⟩ = 0 := by simp [checkE, h1]
    go_enter Try.func50, Try.ntmps50
    go_wp2_with (first | (go_at_call 12; refine (check_any _ _ _ _ _).mono ?_; rintro e w1 ⟨rfl, hb⟩; (first | (have hP1 := hP.trans (hb.mono hP.size); clear hP hb hc hf z0 z1; have hP := hP1; clear hP1) | (have hP := hb; clear hb)); obtain ⟨hc, hf⟩ := bcell hP; have z0 : w.heap.size < w1.heap.size := (by have hz := hP.size; (try simp at hz); omega); have z1 : w.heap.size + 1 < w1.heap.size := (by have hz := hP.size; (try simp at hz); omega)))
    exact bodyPost_ret (by simp [results, Try.results50, go_sem, *]) rfl ⟨rfl, (by repeat (first | exact Below.refl _ _ | with_reducible refine Below.alloc ?_ (by first | (simp; done) | (simp; omega) | omega) _ | with_reducible refine Below.setCell ?_ (by first | (simp; done) | (simp; omega) | omega) _ | with_reducible refine Below.drew ?_ | with_reducible refine Below.trans ?_ (Below.mono (by assumption) (by first | (simp; done) | (simp; omega) | omega))))⟩

set_option maxHeartbeats 400000 in
theorem begin_any (at_ room len way : Int) (w : World) (h1 : -100000 ≤ at_ ∧ at_ ≤ 100000) (h2 : -100000 ≤ room ∧ room ≤ 100000) (h3 : -100000 ≤ len ∧ len ≤ 100000) :
    Calls Try.prog 51 #[.int .i64 at_, .int .i64 room, .int .i64 len, .int .u8 way] w fun e w' => e = .returned (.int .i64 (begin_ at_ room len way)) ∧ w = w' := by
  go_enter Try.func51, Try.ntmps51
  go_wp2
  all_goals
    go_ret
    exact ⟨ret_int (by simp at *; simp [begin_, *]), rfl⟩

set_option maxHeartbeats 400000 in
theorem inset_any (x y a b n : Int) (w : World) :
    Calls Try.prog 20 #[.agg #[.int .i64 x, .int .i64 y, .int .i64 a, .int .i64 b], .int .i64 n] w fun e w' =>
      e = .returned (.tuple #[.agg #[.int .i64 (insetR ⟨x, y, a, b⟩ n).x, .int .i64 (insetR ⟨x, y, a, b⟩ n).y, .int .i64 (insetR ⟨x, y, a, b⟩ n).w, .int .i64 (insetR ⟨x, y, a, b⟩ n).h], .int .i64 (insetE ⟨x, y, a, b⟩ n)]) ∧ Below w.heap.size w w' := by
  cases h1 : may ⟨x, y, a, b⟩
  · rw [show insetR ⟨x, y, a, b⟩ n = ⟨0, 0, 0, 0⟩ by simp [insetR, h1, zero], show insetE ⟨x, y, a, b⟩ n = 5 by simp [insetE, h1]]
    have hk : checkE ⟨x, y, a, b⟩ = 5 := by simp [checkE, h1]
    go_enter Try.func20, Try.ntmps20
    go_wp2_with (first | (go_at_call 12; refine (check_any _ _ _ _ _).mono ?_; rintro e w1 ⟨rfl, hb⟩; (first | (have hP1 := hP.trans (hb.mono hP.size); clear hP hb hc hf z0 z1; have hP := hP1; clear hP1) | (have hP := hb; clear hb)); obtain ⟨hc, hf⟩ := bcell hP; have z0 : w.heap.size < w1.heap.size := (by have hz := hP.size; (try simp at hz); omega); have z1 : w.heap.size + 1 < w1.heap.size := (by have hz := hP.size; (try simp at hz); omega)))
    exact bodyPost_ret (by simp [results, Try.results20, go_sem, *]) rfl ⟨rfl, (by repeat (first | exact Below.refl _ _ | with_reducible refine Below.alloc ?_ (by first | (simp; done) | (simp; omega) | omega) _ | with_reducible refine Below.setCell ?_ (by first | (simp; done) | (simp; omega) | omega) _ | with_reducible refine Below.drew ?_ | with_reducible refine Below.trans ?_ (Below.mono (by assumption) (by first | (simp; done) | (simp; omega) | omega))))⟩
  · have hk : checkE ⟨x, y, a, b⟩ = 0 := by simp [checkE, h1]
    cases h2 : within n
    · rw [show insetR ⟨x, y, a, b⟩ n = ⟨0, 0, 0, 0⟩ by simp [insetR, h1, h2, zero], show insetE ⟨x, y, a, b⟩ n = 2 by simp [insetE, h1, h2]]
      go_enter Try.func20, Try.ntmps20
      go_wp2_with (first | (go_at_call 12; refine (check_any _ _ _ _ _).mono ?_; rintro e w1 ⟨rfl, hb⟩; (first | (have hP1 := hP.trans (hb.mono hP.size); clear hP hb hc hf z0 z1; have hP := hP1; clear hP1) | (have hP := hb; clear hb)); obtain ⟨hc, hf⟩ := bcell hP; have z0 : w.heap.size < w1.heap.size := (by have hz := hP.size; (try simp at hz); omega); have z1 : w.heap.size + 1 < w1.heap.size := (by have hz := hP.size; (try simp at hz); omega)) | (go_at_call 41; refine (within_any _ _).mono ?_; rintro e w' ⟨rfl, rfl⟩))
      exact bodyPost_ret (by simp [results, Try.results20, go_sem, *]) rfl ⟨rfl, (by repeat (first | exact Below.refl _ _ | with_reducible refine Below.alloc ?_ (by first | (simp; done) | (simp; omega) | omega) _ | with_reducible refine Below.setCell ?_ (by first | (simp; done) | (simp; omega) | omega) _ | with_reducible refine Below.drew ?_ | with_reducible refine Below.trans ?_ (Below.mono (by assumption) (by first | (simp; done) | (simp; omega) | omega))))⟩
    · have hn := (within_iff n).1 h2
      cases h3 : empty ⟨x, y, a, b⟩
      · have hb0 := (empty_iff x y a b).1 h3
        rw [show insetR ⟨x, y, a, b⟩ n = fitR (fromR (x + n) (y + n) (x + a - n) (y + b - n)) by simp [insetR, h1, h2, h3, insetIn], show insetE ⟨x, y, a, b⟩ n = fitE (fromR (x + n) (y + n) (x + a - n) (y + b - n)) by simp [insetE, h1, h2, h3, insetIn]]
        go_enter Try.func20, Try.ntmps20
        go_wp2_with (first | (go_at_call 12; refine (check_any _ _ _ _ _).mono ?_; rintro e w1 ⟨rfl, hb⟩; (first | (have hP1 := hP.trans (hb.mono hP.size); clear hP hb hc hf z0 z1; have hP := hP1; clear hP1) | (have hP := hb; clear hb)); obtain ⟨hc, hf⟩ := bcell hP; have z0 : w.heap.size < w1.heap.size := (by have hz := hP.size; (try simp at hz); omega); have z1 : w.heap.size + 1 < w1.heap.size := (by have hz := hP.size; (try simp at hz); omega)) | (go_at_call 41; refine (within_any _ _).mono ?_; rintro e w' ⟨rfl, rfl⟩) | (go_at_call 14; refine (empty_any _ _ _ _ _).mono ?_; rintro e w1 ⟨rfl, hb⟩; (first | (have hP1 := hP.trans (hb.mono hP.size); clear hP hb hc hf z0 z1; have hP := hP1; clear hP1) | (have hP := hb; clear hb)); obtain ⟨hc, hf⟩ := bcell hP; have z0 : w.heap.size < w1.heap.size := (by have hz := hP.size; (try simp at hz); omega); have z1 : w.heap.size + 1 < w1.heap.size := (by have hz := hP.size; (try simp at hz); omega)) | (go_at_call 47; refine (ends_in _ _ _ _ _ (by omega) (by omega)).mono ?_; rintro e w1 ⟨rfl, hb⟩; (first | (have hP1 := hP.trans (hb.mono hP.size); clear hP hb hc hf z0 z1; have hP := hP1; clear hP1) | (have hP := hb; clear hb)); obtain ⟨hc, hf⟩ := bcell hP; have z0 : w.heap.size < w1.heap.size := (by have hz := hP.size; (try simp at hz); omega); have z1 : w.heap.size + 1 < w1.heap.size := (by have hz := hP.size; (try simp at hz); omega)) | (go_at_call 42; refine (from_any _ _ _ _ _).mono ?_; rintro e w1 ⟨rfl, hb⟩; (first | (have hP1 := hP.trans (hb.mono hP.size); clear hP hb hc hf z0 z1; have hP := hP1; clear hP1) | (have hP := hb; clear hb)); obtain ⟨hc, hf⟩ := bcell hP; have z0 : w.heap.size < w1.heap.size := (by have hz := hP.size; (try simp at hz); omega); have z1 : w.heap.size + 1 < w1.heap.size := (by have hz := hP.size; (try simp at hz); omega)) | (go_at_call 50; refine (fit_any _ _ _ _ _).mono ?_; rintro e w1 ⟨rfl, hb⟩; (first | (have hP1 := hP.trans (hb.mono hP.size); clear hP hb hc hf z0 z1; have hP := hP1; clear hP1) | (have hP := hb; clear hb)); obtain ⟨hc, hf⟩ := bcell hP; have z0 : w.heap.size < w1.heap.size := (by have hz := hP.size; (try simp at hz); omega); have z1 : w.heap.size + 1 < w1.heap.size := (by have hz := hP.size; (try simp at hz); omega)))
        exact bodyPost_ret (by simp [results, Try.results20, go_sem, *]) rfl ⟨rfl, (by repeat (first | exact Below.refl _ _ | with_reducible refine Below.alloc ?_ (by first | (simp; done) | (simp; omega) | omega) _ | with_reducible refine Below.setCell ?_ (by first | (simp; done) | (simp; omega) | omega) _ | with_reducible refine Below.drew ?_ | with_reducible refine Below.trans ?_ (Below.mono (by assumption) (by first | (simp; done) | (simp; omega) | omega))))⟩
      · rw [show insetR ⟨x, y, a, b⟩ n = ⟨0, 0, 0, 0⟩ by simp [insetR, h1, h2, h3, zero], show insetE ⟨x, y, a, b⟩ n = 0 by simp [insetE, h1, h2, h3]]
        go_enter Try.func20, Try.ntmps20
        go_wp2_with (first | (go_at_call 12; refine (check_any _ _ _ _ _).mono ?_; rintro e w1 ⟨rfl, hb⟩; (first | (have hP1 := hP.trans (hb.mono hP.size); clear hP hb hc hf z0 z1; have hP := hP1; clear hP1) | (have hP := hb; clear hb)); obtain ⟨hc, hf⟩ := bcell hP; have z0 : w.heap.size < w1.heap.size := (by have hz := hP.size; (try simp at hz); omega); have z1 : w.heap.size + 1 < w1.heap.size := (by have hz := hP.size; (try simp at hz); omega)) | (go_at_call 41; refine (within_any _ _).mono ?_; rintro e w' ⟨rfl, rfl⟩) | (go_at_call 14; refine (empty_any _ _ _ _ _).mono ?_; rintro e w1 ⟨rfl, hb⟩; (first | (have hP1 := hP.trans (hb.mono hP.size); clear hP hb hc hf z0 z1; have hP := hP1; clear hP1) | (have hP := hb; clear hb)); obtain ⟨hc, hf⟩ := bcell hP; have z0 : w.heap.size < w1.heap.size := (by have hz := hP.size; (try simp at hz); omega); have z1 : w.heap.size + 1 < w1.heap.size := (by have hz := hP.size; (try simp at hz); omega)))
        exact bodyPost_ret (by simp [results, Try.results20, go_sem, *]) rfl ⟨rfl, (by repeat (first | exact Below.refl _ _ | with_reducible refine Below.alloc ?_ (by first | (simp; done) | (simp; omega) | omega) _ | with_reducible refine Below.setCell ?_ (by first | (simp; done) | (simp; omega) | omega) _ | with_reducible refine Below.drew ?_ | with_reducible refine Below.trans ?_ (Below.mono (by assumption) (by first | (simp; done) | (simp; omega) | omega))))⟩

set_option maxHeartbeats 400000 in
theorem moved_any (x y a b p q : Int) (w : World) :
    Calls Try.prog 22 #[.agg #[.int .i64 x, .int .i64 y, .int .i64 a, .int .i64 b], .agg #[.int .i64 p, .int .i64 q]] w fun e w' =>
      e = .returned (.tuple #[.agg #[.int .i64 (movedR ⟨x, y, a, b⟩ p q).x, .int .i64 (movedR ⟨x, y, a, b⟩ p q).y, .int .i64 (movedR ⟨x, y, a, b⟩ p q).w, .int .i64 (movedR ⟨x, y, a, b⟩ p q).h], .int .i64 (movedE ⟨x, y, a, b⟩ p q)]) ∧ Below w.heap.size w w' := by
  cases h1 : may ⟨x, y, a, b⟩
  · rw [show movedR ⟨x, y, a, b⟩ p q = ⟨0, 0, 0, 0⟩ by simp [movedR, h1, zero], show movedE ⟨x, y, a, b⟩ p q = 5 by simp [movedE, h1]]
    have hk : checkE ⟨x, y, a, b⟩ = 5 := by simp [checkE, h1]
    go_enter Try.func22, Try.ntmps22
    go_wp2_with (first | (go_at_call 12; refine (check_any _ _ _ _ _).mono ?_; rintro e w1 ⟨rfl, hb⟩; (first | (have hP1 := hP.trans (hb.mono hP.size); clear hP hb hc hf z0 z1 z2; have hP := hP1; clear hP1) | (have hP := hb; clear hb)); obtain ⟨hc, hf⟩ := bcell hP; have z0 : w.heap.size < w1.heap.size := (by have hz := hP.size; (try simp at hz); omega); have z1 : w.heap.size + 1 < w1.heap.size := (by have hz := hP.size; (try simp at hz); omega); have z2 : w.heap.size + 2 < w1.heap.size := (by have hz := hP.size; (try simp at hz); omega)))
    exact bodyPost_ret (by simp [results, Try.results22, go_sem, *]) rfl ⟨rfl, (by repeat (first | exact Below.refl _ _ | with_reducible refine Below.alloc ?_ (by first | (simp; done) | (simp; omega) | omega) _ | with_reducible refine Below.setCell ?_ (by first | (simp; done) | (simp; omega) | omega) _ | with_reducible refine Below.drew ?_ | with_reducible refine Below.trans ?_ (Below.mono (by assumption) (by first | (simp; done) | (simp; omega) | omega))))⟩
  · have hk : checkE ⟨x, y, a, b⟩ = 0 := by simp [checkE, h1]
    cases h3 : empty ⟨x, y, a, b⟩
    · have hb0 := (empty_iff x y a b).1 h3
      by_cases h4 : min p q < -32768
      · have hf' : far p q = true := by simp [far, h4]
        rw [show movedR ⟨x, y, a, b⟩ p q = ⟨0, 0, 0, 0⟩ by simp [movedR, h1, h3, hf', zero], show movedE ⟨x, y, a, b⟩ p q = 9 by simp [movedE, h1, h3, hf']]
        go_enter Try.func22, Try.ntmps22
        go_wp2_with (first | (go_at_call 12; refine (check_any _ _ _ _ _).mono ?_; rintro e w1 ⟨rfl, hb⟩; (first | (have hP1 := hP.trans (hb.mono hP.size); clear hP hb hc hf z0 z1 z2; have hP := hP1; clear hP1) | (have hP := hb; clear hb)); obtain ⟨hc, hf⟩ := bcell hP; have z0 : w.heap.size < w1.heap.size := (by have hz := hP.size; (try simp at hz); omega); have z1 : w.heap.size + 1 < w1.heap.size := (by have hz := hP.size; (try simp at hz); omega); have z2 : w.heap.size + 2 < w1.heap.size := (by have hz := hP.size; (try simp at hz); omega)) | (go_at_call 14; refine (empty_any _ _ _ _ _).mono ?_; rintro e w1 ⟨rfl, hb⟩; (first | (have hP1 := hP.trans (hb.mono hP.size); clear hP hb hc hf z0 z1 z2; have hP := hP1; clear hP1) | (have hP := hb; clear hb)); obtain ⟨hc, hf⟩ := bcell hP; have z0 : w.heap.size < w1.heap.size := (by have hz := hP.size; (try simp at hz); omega); have z1 : w.heap.size + 1 < w1.heap.size := (by have hz := hP.size; (try simp at hz); omega); have z2 : w.heap.size + 2 < w1.heap.size := (by have hz := hP.size; (try simp at hz); omega)))
        exact bodyPost_ret (by simp [results, Try.results22, go_sem, *]) rfl ⟨rfl, (by repeat (first | exact Below.refl _ _ | with_reducible refine Below.alloc ?_ (by first | (simp; done) | (simp; omega) | omega) _ | with_reducible refine Below.setCell ?_ (by first | (simp; done) | (simp; omega) | omega) _ | with_reducible refine Below.drew ?_ | with_reducible refine Below.trans ?_ (Below.mono (by assumption) (by first | (simp; done) | (simp; omega) | omega))))⟩
      · by_cases h5 : 32768 < max p q
        · have hf' : far p q = true := by simp [far, h5]
          rw [show movedR ⟨x, y, a, b⟩ p q = ⟨0, 0, 0, 0⟩ by simp [movedR, h1, h3, hf', zero], show movedE ⟨x, y, a, b⟩ p q = 9 by simp [movedE, h1, h3, hf']]
          go_enter Try.func22, Try.ntmps22
          go_wp2_with (first | (go_at_call 12; refine (check_any _ _ _ _ _).mono ?_; rintro e w1 ⟨rfl, hb⟩; (first | (have hP1 := hP.trans (hb.mono hP.size); clear hP hb hc hf z0 z1 z2; have hP := hP1; clear hP1) | (have hP := hb; clear hb)); obtain ⟨hc, hf⟩ := bcell hP; have z0 : w.heap.size < w1.heap.size := (by have hz := hP.size; (try simp at hz); omega); have z1 : w.heap.size + 1 < w1.heap.size := (by have hz := hP.size; (try simp at hz); omega); have z2 : w.heap.size + 2 < w1.heap.size := (by have hz := hP.size; (try simp at hz); omega)) | (go_at_call 14; refine (empty_any _ _ _ _ _).mono ?_; rintro e w1 ⟨rfl, hb⟩; (first | (have hP1 := hP.trans (hb.mono hP.size); clear hP hb hc hf z0 z1 z2; have hP := hP1; clear hP1) | (have hP := hb; clear hb)); obtain ⟨hc, hf⟩ := bcell hP; have z0 : w.heap.size < w1.heap.size := (by have hz := hP.size; (try simp at hz); omega); have z1 : w.heap.size + 1 < w1.heap.size := (by have hz := hP.size; (try simp at hz); omega); have z2 : w.heap.size + 2 < w1.heap.size := (by have hz := hP.size; (try simp at hz); omega)))
          exact bodyPost_ret (by simp [results, Try.results22, go_sem, *]) rfl ⟨rfl, (by repeat (first | exact Below.refl _ _ | with_reducible refine Below.alloc ?_ (by first | (simp; done) | (simp; omega) | omega) _ | with_reducible refine Below.setCell ?_ (by first | (simp; done) | (simp; omega) | omega) _ | with_reducible refine Below.drew ?_ | with_reducible refine Below.trans ?_ (Below.mono (by assumption) (by first | (simp; done) | (simp; omega) | omega))))⟩
        · have hf' : far p q = false := by simp [far, h4, h5]
          rw [show movedR ⟨x, y, a, b⟩ p q = fitR ⟨x + p, y + q, a, b⟩ by simp [movedR, h1, h3, hf'], show movedE ⟨x, y, a, b⟩ p q = fitE ⟨x + p, y + q, a, b⟩ by simp [movedE, h1, h3, hf']]
          go_enter Try.func22, Try.ntmps22
          go_wp2_with (first | (go_at_call 12; refine (check_any _ _ _ _ _).mono ?_; rintro e w1 ⟨rfl, hb⟩; (first | (have hP1 := hP.trans (hb.mono hP.size); clear hP hb hc hf z0 z1 z2; have hP := hP1; clear hP1) | (have hP := hb; clear hb)); obtain ⟨hc, hf⟩ := bcell hP; have z0 : w.heap.size < w1.heap.size := (by have hz := hP.size; (try simp at hz); omega); have z1 : w.heap.size + 1 < w1.heap.size := (by have hz := hP.size; (try simp at hz); omega); have z2 : w.heap.size + 2 < w1.heap.size := (by have hz := hP.size; (try simp at hz); omega)) | (go_at_call 14; refine (empty_any _ _ _ _ _).mono ?_; rintro e w1 ⟨rfl, hb⟩; (first | (have hP1 := hP.trans (hb.mono hP.size); clear hP hb hc hf z0 z1 z2; have hP := hP1; clear hP1) | (have hP := hb; clear hb)); obtain ⟨hc, hf⟩ := bcell hP; have z0 : w.heap.size < w1.heap.size := (by have hz := hP.size; (try simp at hz); omega); have z1 : w.heap.size + 1 < w1.heap.size := (by have hz := hP.size; (try simp at hz); omega); have z2 : w.heap.size + 2 < w1.heap.size := (by have hz := hP.size; (try simp at hz); omega); (try clear k0 k1); have k0 : w1.cell? ⟨w.heap.size, 0, none⟩ = some (.int .i64 x) := (by rw [hc _ _ (by first | (simp; done) | (simp; omega) | omega)]; simp [go_sem]); have k1 : w1.cell? ⟨w.heap.size, 1, none⟩ = some (.int .i64 y) := (by rw [hc _ _ (by first | (simp; done) | (simp; omega) | omega)]; simp [go_sem])) | (go_at_call 50; refine (fit_any _ _ _ _ _).mono ?_; rintro e w1 ⟨rfl, hb⟩; (first | (have hP1 := hP.trans (hb.mono hP.size); clear hP hb hc hf z0 z1 z2; have hP := hP1; clear hP1) | (have hP := hb; clear hb)); obtain ⟨hc, hf⟩ := bcell hP; have z0 : w.heap.size < w1.heap.size := (by have hz := hP.size; (try simp at hz); omega); have z1 : w.heap.size + 1 < w1.heap.size := (by have hz := hP.size; (try simp at hz); omega); have z2 : w.heap.size + 2 < w1.heap.size := (by have hz := hP.size; (try simp at hz); omega)))
          exact bodyPost_ret (by simp [results, Try.results22, go_sem, *]) rfl ⟨rfl, (by repeat (first | exact Below.refl _ _ | with_reducible refine Below.alloc ?_ (by first | (simp; done) | (simp; omega) | omega) _ | with_reducible refine Below.setCell ?_ (by first | (simp; done) | (simp; omega) | omega) _ | with_reducible refine Below.drew ?_ | with_reducible refine Below.trans ?_ (Below.mono (by assumption) (by first | (simp; done) | (simp; omega) | omega))))⟩
    · rw [show movedR ⟨x, y, a, b⟩ p q = ⟨0, 0, 0, 0⟩ by simp [movedR, h1, h3, zero], show movedE ⟨x, y, a, b⟩ p q = 0 by simp [movedE, h1, h3]]
      go_enter Try.func22, Try.ntmps22
      go_wp2_with (first | (go_at_call 12; refine (check_any _ _ _ _ _).mono ?_; rintro e w1 ⟨rfl, hb⟩; (first | (have hP1 := hP.trans (hb.mono hP.size); clear hP hb hc hf z0 z1 z2; have hP := hP1; clear hP1) | (have hP := hb; clear hb)); obtain ⟨hc, hf⟩ := bcell hP; have z0 : w.heap.size < w1.heap.size := (by have hz := hP.size; (try simp at hz); omega); have z1 : w.heap.size + 1 < w1.heap.size := (by have hz := hP.size; (try simp at hz); omega); have z2 : w.heap.size + 2 < w1.heap.size := (by have hz := hP.size; (try simp at hz); omega)) | (go_at_call 14; refine (empty_any _ _ _ _ _).mono ?_; rintro e w1 ⟨rfl, hb⟩; (first | (have hP1 := hP.trans (hb.mono hP.size); clear hP hb hc hf z0 z1 z2; have hP := hP1; clear hP1) | (have hP := hb; clear hb)); obtain ⟨hc, hf⟩ := bcell hP; have z0 : w.heap.size < w1.heap.size := (by have hz := hP.size; (try simp at hz); omega); have z1 : w.heap.size + 1 < w1.heap.size := (by have hz := hP.size; (try simp at hz); omega); have z2 : w.heap.size + 2 < w1.heap.size := (by have hz := hP.size; (try simp at hz); omega)))
      exact bodyPost_ret (by simp [results, Try.results22, go_sem, *]) rfl ⟨rfl, (by repeat (first | exact Below.refl _ _ | with_reducible refine Below.alloc ?_ (by first | (simp; done) | (simp; omega) | omega) _ | with_reducible refine Below.setCell ?_ (by first | (simp; done) | (simp; omega) | omega) _ | with_reducible refine Below.drew ?_ | with_reducible refine Below.trans ?_ (Below.mono (by assumption) (by first | (simp; done) | (simp; omega) | omega))))⟩
end Go.Proofs.Ytoinjoihkodkeaa
