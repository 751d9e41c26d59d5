/- Layer 1: the reference's functions over rectangles. -/
import Derived.Test.YtoinjoihkodkeaaGeomC
import Derived.Lib.Hide
namespace Go.Proofs.Ytoinjoihkodkeaa
set_option linter.unusedVariables false
set_option linter.unusedSimpArgs false
open Go.RowKit
attribute [local go_sem] max_fold min_fold

set_option maxHeartbeats 400000 in
theorem rmeet_any (x y a b p q c d : Int) (w : World) :
    Calls Try.prog 36 #[.agg #[.int .i64 x, .int .i64 y, .int .i64 a, .int .i64 b], .agg #[.int .i64 p, .int .i64 q, .int .i64 c, .int .i64 d]] w fun e w' =>
      e = .returned (.agg #[.int .i64 (meet ⟨x, y, a, b⟩ ⟨p, q, c, d⟩).x, .int .i64 (meet ⟨x, y, a, b⟩ ⟨p, q, c, d⟩).y, .int .i64 (meet ⟨x, y, a, b⟩ ⟨p, q, c, d⟩).w, .int .i64 (meet ⟨x, y, a, b⟩ ⟨p, q, c, d⟩).h]) ∧ Below w.heap.size w w' := by
  cases h1 : empty ⟨x, y, a, b⟩
  · cases h2 : empty ⟨p, q, c, d⟩
    · have hb1 := (empty_iff x y a b).1 h1
      have hb2 := (empty_iff p q c d).1 h2
      rw [show meet ⟨x, y, a, b⟩ ⟨p, q, c, d⟩ = fromR (max x p) (max y q) (min (x + a) (p + c)) (min (y + b) (q + d)) by simp [meet, h1, h2]]
      go_enter Try.func36, Try.ntmps36
      go_wp2_with (first | (go_at_call 15; refine (rempty_any _ _ _ _ _).mono ?_; rintro e w1 ⟨rfl, hb⟩; (first | (have hP1 := hP.trans (hb.mono hP.size); clear hP hb hc hf z0 z1 z2; have hP := hP1; clear hP1) | (have hP := hb; clear hb)); obtain ⟨hc, hf⟩ := bcell hP; have z0 : w.heap.size < w1.heap.size := (by have hz := hP.size; (try simp at hz); omega); have z1 : w.heap.size + 1 < w1.heap.size := (by have hz := hP.size; (try simp at hz); omega); have z2 : w.heap.size + 2 < w1.heap.size := (by have hz := hP.size; (try simp at hz); omega)))
      (refine region_ext_last 1 mixed (by kernel_rfl) ?_; simp only [List.length_cons, List.length_nil, Nat.reduceAdd, Nat.reduceSub, List.take_succ_cons, List.take_zero, List.drop_succ_cons, List.drop_zero]; (repeat (go_big_quiet_step (first | (go_at_call 48; exact in_ext (right_in _ _ _ _ _ (by omega))) | (go_at_call 49; exact in_ext (below_in _ _ _ _ _ (by omega))) | (go_at_call 44; exact in_ext (rfrom_any _ _ _ _ _))))); refine wpQuiet_nil ?_; intro w1 hb; (first | (have hP1 := hP.trans (hb.mono hP.size); clear hP hb hc hf z0 z1 z2; have hP := hP1; clear hP1) | (have hP := hb; clear hb)); obtain ⟨hc, hf⟩ := bcell hP; have z0 : w.heap.size < w1.heap.size := (by have hz := hP.size; (try simp at hz); omega); have z1 : w.heap.size + 1 < w1.heap.size := (by have hz := hP.size; (try simp at hz); omega); have z2 : w.heap.size + 2 < w1.heap.size := (by have hz := hP.size; (try simp at hz); omega))
      go_wp2
      exact bodyPost_ret (by simp [results, Try.results36, go_sem, *]) rfl ⟨rfl, (by repeat (first | exact Below.refl _ _ | with_reducible refine Below.alloc ?_ (by first | (simp; done) | (simp; omega) | omega) _ | with_reducible refine Below.setCell ?_ (by first | (simp; done) | (simp; omega) | omega) _ | with_reducible refine Below.drew ?_ | with_reducible refine Below.trans ?_ (Below.mono (by assumption) (by first | (simp; done) | (simp; omega) | omega))))⟩
    · rw [show meet ⟨x, y, a, b⟩ ⟨p, q, c, d⟩ = ⟨0, 0, 0, 0⟩ by simp [meet, h2, zero]]
      go_enter Try.func36, Try.ntmps36
      go_wp2_with (first | (go_at_call 15; refine (rempty_any _ _ _ _ _).mono ?_; rintro e w1 ⟨rfl, hb⟩; (first | (have hP1 := hP.trans (hb.mono hP.size); clear hP hb hc hf z0 z1 z2; have hP := hP1; clear hP1) | (have hP := hb; clear hb)); obtain ⟨hc, hf⟩ := bcell hP; have z0 : w.heap.size < w1.heap.size := (by have hz := hP.size; (try simp at hz); omega); have z1 : w.heap.size + 1 < w1.heap.size := (by have hz := hP.size; (try simp at hz); omega); have z2 : w.heap.size + 2 < w1.heap.size := (by have hz := hP.size; (try simp at hz); omega)))
      exact bodyPost_ret (by simp [results, Try.results36, go_sem, *]) rfl ⟨rfl, (by repeat (first | exact Below.refl _ _ | with_reducible refine Below.alloc ?_ (by first | (simp; done) | (simp; omega) | omega) _ | with_reducible refine Below.setCell ?_ (by first | (simp; done) | (simp; omega) | omega) _ | with_reducible refine Below.drew ?_ | with_reducible refine Below.trans ?_ (Below.mono (by assumption) (by first | (simp; done) | (simp; omega) | omega))))⟩
  · rw [show meet ⟨x, y, a, b⟩ ⟨p, q, c, d⟩ = ⟨0, 0, 0, 0⟩ by simp [meet, h1, zero]]
    go_enter Try.func36, Try.ntmps36
    go_wp2_with (first | (go_at_call 15; refine (rempty_any _ _ _ _ _).mono ?_; rintro e w1 ⟨rfl, hb⟩; (first | (have hP1 := hP.trans (hb.mono hP.size); clear hP hb hc hf z0 z1 z2; have hP := hP1; clear hP1) | (have hP := hb; clear hb)); obtain ⟨hc, hf⟩ := bcell hP; have z0 : w.heap.size < w1.heap.size := (by have hz := hP.size; (try simp at hz); omega); have z1 : w.heap.size + 1 < w1.heap.size := (by have hz := hP.size; (try simp at hz); omega); have z2 : w.heap.size + 2 < w1.heap.size := (by have hz := hP.size; (try simp at hz); omega)))
    exact bodyPost_ret (by simp [results, Try.results36, go_sem, *]) rfl ⟨rfl, (by repeat (first | exact Below.refl _ _ | with_reducible refine Below.alloc ?_ (by first | (simp; done) | (simp; omega) | omega) _ | with_reducible refine Below.setCell ?_ (by first | (simp; done) | (simp; omega) | omega) _ | with_reducible refine Below.drew ?_ | with_reducible refine Below.trans ?_ (Below.mono (by assumption) (by first | (simp; done) | (simp; omega) | omega))))⟩

set_option maxHeartbeats 400000 in
theorem rin_any (x y a b p q c d : Int) (w : World) :
    Calls Try.prog 32 #[.agg #[.int .i64 x, .int .i64 y, .int .i64 a, .int .i64 b], .agg #[.int .i64 p, .int .i64 q, .int .i64 c, .int .i64 d]] w fun e w' => e = .returned (.bool (inR ⟨x, y, a, b⟩ ⟨p, q, c, d⟩)) ∧ Below w.heap.size w w' := by
  cases h1 : empty ⟨x, y, a, b⟩
  · go_enter Try.func32, Try.ntmps32
    go_wp2
    refine region_ext mixed (by kernel_rfl) ?_
    repeat (go_big_quiet_step (first | (go_at_call 15; exact in_ext (rempty_is h1 _)) | (go_at_call 36; exact in_ext (rmeet_any _ _ _ _ _ _ _ _ _))))
    refine wpQuiet_nil ?_
    intro w1 hb1
    go_wp2
    go_ret
    exact ⟨ret_bool (by rw [rcEq_iff']; simp [inR, h1]), (by repeat (first | exact Below.refl _ _ | with_reducible refine Below.alloc ?_ (by first | (simp; done) | (simp; omega) | omega) _ | with_reducible refine Below.setCell ?_ (by first | (simp; done) | (simp; omega) | omega) _ | with_reducible refine Below.drew ?_ | with_reducible refine Below.trans ?_ (Below.mono (by assumption) (by first | (simp; done) | (simp; omega) | omega))))⟩
  · go_enter Try.func32, Try.ntmps32
    go_wp2
    refine region_ext mixed (by kernel_rfl) ?_
    repeat (go_big_quiet_step (first | (go_at_call 15; exact in_ext (rempty_is h1 _))))
    refine wpQuiet_nil ?_
    intro w1 hb1
    go_wp2
    go_ret
    exact ⟨ret_bool (by simp [inR, h1]), (by repeat (first | exact Below.refl _ _ | with_reducible refine Below.alloc ?_ (by first | (simp; done) | (simp; omega) | omega) _ | with_reducible refine Below.setCell ?_ (by first | (simp; done) | (simp; omega) | omega) _ | with_reducible refine Below.drew ?_ | with_reducible refine Below.trans ?_ (Below.mono (by assumption) (by first | (simp; done) | (simp; omega) | omega))))⟩

set_option maxHeartbeats 400000 in
theorem rover_any (x y a b p q c d : Int) (w : World) :
    Calls Try.prog 34 #[.agg #[.int .i64 x, .int .i64 y, .int .i64 a, .int .i64 b], .agg #[.int .i64 p, .int .i64 q, .int .i64 c, .int .i64 d]] w fun e w' => e = .returned (.bool (over ⟨x, y, a, b⟩ ⟨p, q, c, d⟩)) ∧ Below w.heap.size w w' := by
  go_enter Try.func34, Try.ntmps34
  go_wp2_with (first | (go_at_call 36; refine (rmeet_any _ _ _ _ _ _ _ _ _).mono ?_; rintro e w1 ⟨rfl, hb⟩; (first | (have hP1 := hP.trans (hb.mono hP.size); clear hP hb hc hf z0 z1; have hP := hP1; clear hP1) | (have hP := hb; clear hb)); obtain ⟨hc, hf⟩ := bcell hP; have z0 : w.heap.size < w1.heap.size := (by have hz := hP.size; (try simp at hz); omega); have z1 : w.heap.size + 1 < w1.heap.size := (by have hz := hP.size; (try simp at hz); omega)))
  go_ret
  exact ⟨ret_bool (by rw [rcEq_iff']; rfl), (by repeat (first | exact Below.refl _ _ | with_reducible refine Below.alloc ?_ (by first | (simp; done) | (simp; omega) | omega) _ | with_reducible refine Below.setCell ?_ (by first | (simp; done) | (simp; omega) | omega) _ | with_reducible refine Below.drew ?_ | with_reducible refine Below.trans ?_ (Below.mono (by assumption) (by first | (simp; done) | (simp; omega) | omega))))⟩

set_option maxHeartbeats 400000 in
theorem plain_any (x y a b : Int) (w : World) :
    Calls Try.prog 54 #[.agg #[.int .i64 x, .int .i64 y, .int .i64 a, .int .i64 b]] w fun e w' =>
      e = .returned (.agg #[.int .i64 (if empty ⟨x, y, a, b⟩ then zero else ⟨x, y, a, b⟩).x, .int .i64 (if empty ⟨x, y, a, b⟩ then zero else ⟨x, y, a, b⟩).y, .int .i64 (if empty ⟨x, y, a, b⟩ then zero else ⟨x, y, a, b⟩).w, .int .i64 (if empty ⟨x, y, a, b⟩ then zero else ⟨x, y, a, b⟩).h]) ∧ Below w.heap.size w w' := by
  cases h1 : empty ⟨x, y, a, b⟩
  all_goals
    simp only [if_true, Bool.false_eq_true, if_false, zero]
    go_enter Try.func54, Try.ntmps54
    go_wp2_with (first | (go_at_call 15; refine (rempty_any _ _ _ _ _).mono ?_; rintro e w1 ⟨rfl, hb⟩; (first | (have hP1 := hP.trans (hb.mono hP.size); clear hP hb hc hf z0 z1; have hP := hP1; clear hP1) | (have hP := hb; clear hb)); obtain ⟨hc, hf⟩ := bcell hP; have z0 : w.heap.size < w1.heap.size := (by have hz := hP.size; (try simp at hz); omega); have z1 : w.heap.size + 1 < w1.heap.size := (by have hz := hP.size; (try simp at hz); omega)))
    exact bodyPost_ret (by simp [results, Try.results54, go_sem, *]) rfl ⟨rfl, (by repeat (first | exact Below.refl _ _ | with_reducible refine Below.alloc ?_ (by first | (simp; done) | (simp; omega) | omega) _ | with_reducible refine Below.setCell ?_ (by first | (simp; done) | (simp; omega) | omega) _ | with_reducible refine Below.drew ?_ | with_reducible refine Below.trans ?_ (Below.mono (by assumption) (by first | (simp; done) | (simp; omega) | omega))))⟩

set_option maxHeartbeats 400000 in
theorem rjoin_any (x y a b p q c d : Int) (w : World) :
    Calls Try.prog 27 #[.agg #[.int .i64 x, .int .i64 y, .int .i64 a, .int .i64 b], .agg #[.int .i64 p, .int .i64 q, .int .i64 c, .int .i64 d]] w fun e w' =>
      e = .returned (.agg #[.int .i64 (join ⟨x, y, a, b⟩ ⟨p, q, c, d⟩).x, .int .i64 (join ⟨x, y, a, b⟩ ⟨p, q, c, d⟩).y, .int .i64 (join ⟨x, y, a, b⟩ ⟨p, q, c, d⟩).w, .int .i64 (join ⟨x, y, a, b⟩ ⟨p, q, c, d⟩).h]) ∧ Below w.heap.size w w' := by
  cases h1 : empty ⟨x, y, a, b⟩
  · cases h2 : empty ⟨p, q, c, d⟩
    · rw [show join ⟨x, y, a, b⟩ ⟨p, q, c, d⟩ = fromR (min x p) (min y q) (max (x + a) (p + c)) (max (y + b) (q + d)) by simp [join, h1, h2]]
      have hb1 := (empty_iff x y a b).1 h1
      have hb2 := (empty_iff p q c d).1 h2
      go_enter Try.func27, Try.ntmps27
      go_wp2_with (first | (go_at_call 15; refine (rempty_any _ _ _ _ _).mono ?_; rintro e w1 ⟨rfl, hb⟩; (first | (have hP1 := hP.trans (hb.mono hP.size); clear hP hb hc hf z0 z1 z2; have hP := hP1; clear hP1) | (have hP := hb; clear hb)); obtain ⟨hc, hf⟩ := bcell hP; have z0 : w.heap.size < w1.heap.size := (by have hz := hP.size; (try simp at hz); omega); have z1 : w.heap.size + 1 < w1.heap.size := (by have hz := hP.size; (try simp at hz); omega); have z2 : w.heap.size + 2 < w1.heap.size := (by have hz := hP.size; (try simp at hz); omega)))
      (refine region_ext_last 1 mixed (by kernel_rfl) ?_; simp only [List.length_cons, List.length_nil, Nat.reduceAdd, Nat.reduceSub, List.take_succ_cons, List.take_zero, List.drop_succ_cons, List.drop_zero]; (repeat (go_big_quiet_step (first | (go_at_call 48; exact in_ext (right_in _ _ _ _ _ (by omega))) | (go_at_call 49; exact in_ext (below_in _ _ _ _ _ (by omega))) | (go_at_call 44; exact in_ext (rfrom_any _ _ _ _ _))))); refine wpQuiet_nil ?_; intro w1 hb; (first | (have hP1 := hP.trans (hb.mono hP.size); clear hP hb hc hf z0 z1 z2; have hP := hP1; clear hP1) | (have hP := hb; clear hb)); obtain ⟨hc, hf⟩ := bcell hP; have z0 : w.heap.size < w1.heap.size := (by have hz := hP.size; (try simp at hz); omega); have z1 : w.heap.size + 1 < w1.heap.size := (by have hz := hP.size; (try simp at hz); omega); have z2 : w.heap.size + 2 < w1.heap.size := (by have hz := hP.size; (try simp at hz); omega))
      go_wp2
      exact bodyPost_ret (by simp [results, Try.results27, go_sem, *]) rfl ⟨rfl, (by repeat (first | exact Below.refl _ _ | with_reducible refine Below.alloc ?_ (by first | (simp; done) | (simp; omega) | omega) _ | with_reducible refine Below.setCell ?_ (by first | (simp; done) | (simp; omega) | omega) _ | with_reducible refine Below.drew ?_ | with_reducible refine Below.trans ?_ (Below.mono (by assumption) (by first | (simp; done) | (simp; omega) | omega))))⟩
    · rw [show join ⟨x, y, a, b⟩ ⟨p, q, c, d⟩ = ⟨x, y, a, b⟩ by simp [join, h1, h2]]
      go_enter Try.func27, Try.ntmps27
      go_wp2_with (first | (go_at_call 15; refine (rempty_any _ _ _ _ _).mono ?_; rintro e w1 ⟨rfl, hb⟩; (first | (have hP1 := hP.trans (hb.mono hP.size); clear hP hb hc hf z0 z1 z2; have hP := hP1; clear hP1) | (have hP := hb; clear hb)); obtain ⟨hc, hf⟩ := bcell hP; have z0 : w.heap.size < w1.heap.size := (by have hz := hP.size; (try simp at hz); omega); have z1 : w.heap.size + 1 < w1.heap.size := (by have hz := hP.size; (try simp at hz); omega); have z2 : w.heap.size + 2 < w1.heap.size := (by have hz := hP.size; (try simp at hz); omega)))
      exact bodyPost_ret (by simp [results, Try.results27, go_sem, *]) rfl ⟨rfl, (by repeat (first | exact Below.refl _ _ | with_reducible refine Below.alloc ?_ (by first | (simp; done) | (simp; omega) | omega) _ | with_reducible refine Below.setCell ?_ (by first | (simp; done) | (simp; omega) | omega) _ | with_reducible refine Below.drew ?_ | with_reducible refine Below.trans ?_ (Below.mono (by assumption) (by first | (simp; done) | (simp; omega) | omega))))⟩
  · rw [show join ⟨x, y, a, b⟩ ⟨p, q, c, d⟩ = (if empty ⟨p, q, c, d⟩ then zero else ⟨p, q, c, d⟩) by simp [join, h1]]
    generalize hr : (if empty ⟨p, q, c, d⟩ then zero else (⟨p, q, c, d⟩ : Rc)) = r
    have HR := Go.Lib.hid hr
    clear hr
    have hp : ∀ w, Calls Try.prog 54 #[.agg #[.int .i64 p, .int .i64 q, .int .i64 c, .int .i64 d]] w fun e w' => e = .returned (.agg #[.int .i64 r.x, .int .i64 r.y, .int .i64 r.w, .int .i64 r.h]) ∧ Below w.heap.size w w' := fun w => HR.out ▸ plain_any p q c d w
    have HP := Go.Lib.hid hp
    clear hp
    go_enter Try.func27, Try.ntmps27
    go_wp2_with (first | (go_at_call 15; refine (rempty_any _ _ _ _ _).mono ?_; rintro e w1 ⟨rfl, hb⟩; (first | (have hP1 := hP.trans (hb.mono hP.size); clear hP hb hc hf z0 z1 z2; have hP := hP1; clear hP1) | (have hP := hb; clear hb)); obtain ⟨hc, hf⟩ := bcell hP; have z0 : w.heap.size < w1.heap.size := (by have hz := hP.size; (try simp at hz); omega); have z1 : w.heap.size + 1 < w1.heap.size := (by have hz := hP.size; (try simp at hz); omega); have z2 : w.heap.size + 2 < w1.heap.size := (by have hz := hP.size; (try simp at hz); omega)) | (go_at_call 54; refine (HP.out _).mono ?_; rintro e w1 ⟨rfl, hb⟩; (first | (have hP1 := hP.trans (hb.mono hP.size); clear hP hb hc hf z0 z1 z2; have hP := hP1; clear hP1) | (have hP := hb; clear hb)); obtain ⟨hc, hf⟩ := bcell hP; have z0 : w.heap.size < w1.heap.size := (by have hz := hP.size; (try simp at hz); omega); have z1 : w.heap.size + 1 < w1.heap.size := (by have hz := hP.size; (try simp at hz); omega); have z2 : w.heap.size + 2 < w1.heap.size := (by have hz := hP.size; (try simp at hz); omega)))
    exact bodyPost_ret (by simp [results, Try.results27, go_sem, *]) rfl ⟨rfl, (by repeat (first | exact Below.refl _ _ | with_reducible refine Below.alloc ?_ (by first | (simp; done) | (simp; omega) | omega) _ | with_reducible refine Below.setCell ?_ (by first | (simp; done) | (simp; omega) | omega) _ | with_reducible refine Below.drew ?_ | with_reducible refine Below.trans ?_ (Below.mono (by assumption) (by first | (simp; done) | (simp; omega) | omega))))⟩
end Go.Proofs.Ytoinjoihkodkeaa
