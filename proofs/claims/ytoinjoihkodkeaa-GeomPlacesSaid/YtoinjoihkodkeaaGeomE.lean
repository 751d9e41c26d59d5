/- Layer 1: Make, Align; the reference's Make, Inset, Moved, Align. -/
import Derived.Test.YtoinjoihkodkeaaGeomB
import Derived.Test.YtoinjoihkodkeaaGeomD
import Derived.LoopN
import Derived.Test.YtoinjoihkodkeaaBaseAlloc
namespace Go.Proofs.Ytoinjoihkodkeaa
set_option linter.unusedVariables false
set_option linter.unusedSimpArgs false
open Go.RowKit
attribute [local go_sem] max_fold min_fold

section
variable (w : World) (v0 v1 v2 v3 u0 u1 u2 u3 s0 s1 s2 s3 t0 t1 t2 t3 : Value)
theorem idx0 : (Instr.index 55 (.agg #[v0, v1, v2, v3]) (.int .i64 0)).run Try.prog w = .ok v0 w := by kernel_rfl
theorem idx1 : (Instr.index 55 (.agg #[v0, v1, v2, v3]) (.int .i64 1)).run Try.prog w = .ok v1 w := by kernel_rfl
theorem idx2 : (Instr.index 55 (.agg #[v0, v1, v2, v3]) (.int .i64 2)).run Try.prog w = .ok v2 w := by kernel_rfl
theorem idx3 : (Instr.index 55 (.agg #[v0, v1, v2, v3]) (.int .i64 3)).run Try.prog w = .ok v3 w := by kernel_rfl
theorem ridx0 : (Instr.index 63 (.agg #[v0, v1, v2, v3, u0, u1, u2, u3, s0, s1, s2, s3, t0, t1, t2, t3]) (.int .i64 0)).run Try.prog w = .ok (.agg #[v0, v1, v2, v3]) w := by kernel_rfl
theorem ridx1 : (Instr.index 63 (.agg #[v0, v1, v2, v3, u0, u1, u2, u3, s0, s1, s2, s3, t0, t1, t2, t3]) (.int .i64 1)).run Try.prog w = .ok (.agg #[u0, u1, u2, u3]) w := by kernel_rfl
theorem ridx2 : (Instr.index 63 (.agg #[v0, v1, v2, v3, u0, u1, u2, u3, s0, s1, s2, s3, t0, t1, t2, t3]) (.int .i64 2)).run Try.prog w = .ok (.agg #[s0, s1, s2, s3]) w := by kernel_rfl
theorem ridx3 : (Instr.index 63 (.agg #[v0, v1, v2, v3, u0, u1, u2, u3, s0, s1, s2, s3, t0, t1, t2, t3]) (.int .i64 3)).run Try.prog w = .ok (.agg #[t0, t1, t2, t3]) w := by kernel_rfl
end
attribute [go_sem] idx0 idx1 idx2 idx3 ridx0 ridx1 ridx2 ridx3

set_option maxHeartbeats 1000000 in
theorem make_any (a b c d : Int) (w : World) :
    Calls Try.prog 10 #[.agg #[.int .i64 a, .int .i64 b], .agg #[.int .i64 c, .int .i64 d]] w fun e w' =>
      e = .returned (.tuple #[.agg #[.int .i64 (makeR a b c d).x, .int .i64 (makeR a b c d).y, .int .i64 (makeR a b c d).w, .int .i64 (makeR a b c d).h], .int .i64 (makeE a b c d)]) ∧ Below w.heap.size w w' := by
  cases h1 : within a
  · rw [show makeR a b c d = ⟨0, 0, 0, 0⟩ by simp [makeR, makeOk, h1, zero], show makeE a b c d = 2 by simp [makeE, makeOk, h1]]
    go_enter Try.func10, Try.ntmps10
    go_wp2
    refine wp_loop_rounds 1 ?_
    rw [rounds_succ]; go_wp2_with (first | (go_at_call 41; refine (within_any _ _).mono ?_; rintro e w' ⟨rfl, rfl⟩))
    exact bodyPost_ret (by simp [results, Try.results10, go_sem, *]) rfl ⟨rfl, (by repeat (first | exact Below.refl _ _ | with_reducible refine Below.alloc ?_ (by first | (simp; done) | (simp; omega) | omega) _ | with_reducible refine Below.setCell ?_ (by first | (simp; done) | (simp; omega) | omega) _ | with_reducible refine Below.drew ?_ | with_reducible refine Below.trans ?_ (Below.mono (by assumption) (by first | (simp; done) | (simp; omega) | omega))))⟩
  · cases h2 : within b
    · rw [show makeR a b c d = ⟨0, 0, 0, 0⟩ by simp [makeR, makeOk, h1, h2, zero], show makeE a b c d = 2 by simp [makeE, makeOk, h1, h2]]
      go_enter Try.func10, Try.ntmps10
      go_wp2
      refine wp_loop_rounds 2 ?_
      rw [rounds_succ]; go_wp2_with (first | (go_at_call 41; refine (within_any _ _).mono ?_; rintro e w' ⟨rfl, rfl⟩))
      rw [rounds_succ]; go_wp2_with (first | (go_at_call 41; refine (within_any _ _).mono ?_; rintro e w' ⟨rfl, rfl⟩))
      exact bodyPost_ret (by simp [results, Try.results10, go_sem, *]) rfl ⟨rfl, (by repeat (first | exact Below.refl _ _ | with_reducible refine Below.alloc ?_ (by first | (simp; done) | (simp; omega) | omega) _ | with_reducible refine Below.setCell ?_ (by first | (simp; done) | (simp; omega) | omega) _ | with_reducible refine Below.drew ?_ | with_reducible refine Below.trans ?_ (Below.mono (by assumption) (by first | (simp; done) | (simp; omega) | omega))))⟩
    · cases h3 : within c
      · rw [show makeR a b c d = ⟨0, 0, 0, 0⟩ by simp [makeR, makeOk, h1, h2, h3, zero], show makeE a b c d = 2 by simp [makeE, makeOk, h1, h2, h3]]
        go_enter Try.func10, Try.ntmps10
        go_wp2
        refine wp_loop_rounds 3 ?_
        rw [rounds_succ]; go_wp2_with (first | (go_at_call 41; refine (within_any _ _).mono ?_; rintro e w' ⟨rfl, rfl⟩))
        rw [rounds_succ]; go_wp2_with (first | (go_at_call 41; refine (within_any _ _).mono ?_; rintro e w' ⟨rfl, rfl⟩))
        rw [rounds_succ]; go_wp2_with (first | (go_at_call 41; refine (within_any _ _).mono ?_; rintro e w' ⟨rfl, rfl⟩))
        exact bodyPost_ret (by simp [results, Try.results10, go_sem, *]) rfl ⟨rfl, (by repeat (first | exact Below.refl _ _ | with_reducible refine Below.alloc ?_ (by first | (simp; done) | (simp; omega) | omega) _ | with_reducible refine Below.setCell ?_ (by first | (simp; done) | (simp; omega) | omega) _ | with_reducible refine Below.drew ?_ | with_reducible refine Below.trans ?_ (Below.mono (by assumption) (by first | (simp; done) | (simp; omega) | omega))))⟩
      · cases h4 : within d
        · rw [show makeR a b c d = ⟨0, 0, 0, 0⟩ by simp [makeR, makeOk, h1, h2, h3, h4, zero], show makeE a b c d = 2 by simp [makeE, makeOk, h1, h2, h3, h4]]
          go_enter Try.func10, Try.ntmps10
          go_wp2
          refine wp_loop_rounds 4 ?_
          rw [rounds_succ]; go_wp2_with (first | (go_at_call 41; refine (within_any _ _).mono ?_; rintro e w' ⟨rfl, rfl⟩))
          rw [rounds_succ]; go_wp2_with (first | (go_at_call 41; refine (within_any _ _).mono ?_; rintro e w' ⟨rfl, rfl⟩))
          rw [rounds_succ]; go_wp2_with (first | (go_at_call 41; refine (within_any _ _).mono ?_; rintro e w' ⟨rfl, rfl⟩))
          rw [rounds_succ]; go_wp2_with (first | (go_at_call 41; refine (within_any _ _).mono ?_; rintro e w' ⟨rfl, rfl⟩))
          exact bodyPost_ret (by simp [results, Try.results10, go_sem, *]) rfl ⟨rfl, (by repeat (first | exact Below.refl _ _ | with_reducible refine Below.alloc ?_ (by first | (simp; done) | (simp; omega) | omega) _ | with_reducible refine Below.setCell ?_ (by first | (simp; done) | (simp; omega) | omega) _ | with_reducible refine Below.drew ?_ | with_reducible refine Below.trans ?_ (Below.mono (by assumption) (by first | (simp; done) | (simp; omega) | omega))))⟩
        · rw [show makeR a b c d = fromR (min a c) (min b d) (max a c) (max b d) by simp [makeR, makeOk, h1, h2, h3, h4], show makeE a b c d = 0 by simp [makeE, makeOk, h1, h2, h3, h4]]
          go_enter Try.func10, Try.ntmps10
          go_wp2
          refine wp_loop_rounds 5 ?_
          rw [rounds_succ]; go_wp2_with (first | (go_at_call 41; refine (within_any _ _).mono ?_; rintro e w' ⟨rfl, rfl⟩))
          rw [rounds_succ]; go_wp2_with (first | (go_at_call 41; refine (within_any _ _).mono ?_; rintro e w' ⟨rfl, rfl⟩))
          rw [rounds_succ]; go_wp2_with (first | (go_at_call 41; refine (within_any _ _).mono ?_; rintro e w' ⟨rfl, rfl⟩))
          rw [rounds_succ]; go_wp2_with (first | (go_at_call 41; refine (within_any _ _).mono ?_; rintro e w' ⟨rfl, rfl⟩))
          rw [rounds_succ]
          go_wp2_with (first | (go_at_call 42; refine (from_any _ _ _ _ _).mono ?_; rintro e w1 ⟨rfl, hb⟩; (first | (have hP1 := hP.trans (hb.mono hP.size); clear hP hb hc hf z0 z1 z2; have hP := hP1; clear hP1) | (have hP := hb; clear hb)); obtain ⟨hc, hf⟩ := bcell hP; have z0 : w.heap.size < w1.heap.size := (by have hz := hP.size; (try simp at hz); omega); have z1 : w.heap.size + 1 < w1.heap.size := (by have hz := hP.size; (try simp at hz); omega); have z2 : w.heap.size + 2 < w1.heap.size := (by have hz := hP.size; (try simp at hz); omega)))
          exact bodyPost_ret (by simp [results, Try.results10, go_sem, *]) rfl ⟨rfl, (by repeat (first | exact Below.refl _ _ | with_reducible refine Below.alloc ?_ (by first | (simp; done) | (simp; omega) | omega) _ | with_reducible refine Below.setCell ?_ (by first | (simp; done) | (simp; omega) | omega) _ | with_reducible refine Below.drew ?_ | with_reducible refine Below.trans ?_ (Below.mono (by assumption) (by first | (simp; done) | (simp; omega) | omega))))⟩

set_option maxHeartbeats 1000000 in
theorem rmake_any (a b c d : Int) (w : World) :
    Calls Try.prog 11 #[.agg #[.int .i64 a, .int .i64 b], .agg #[.int .i64 c, .int .i64 d]] w fun e w' =>
      e = .returned (.tuple #[.agg #[.int .i64 (makeR a b c d).x, .int .i64 (makeR a b c d).y, .int .i64 (makeR a b c d).w, .int .i64 (makeR a b c d).h], .int .i64 (makeE a b c d)]) ∧ Below w.heap.size w w' := by
  cases h0 : makeOk a b c d
  · rw [show makeR a b c d = ⟨0, 0, 0, 0⟩ by simp [makeR, h0, zero], show makeE a b c d = 2 by simp [makeE, h0]]
    cases h1 : within a
    · go_enter Try.func11, Try.ntmps11
      go_wp2_with (first | (go_at_call 43; refine (rwithin_any _ _).mono ?_; rintro e w' ⟨rfl, rfl⟩))
      exact bodyPost_ret (by simp [results, Try.results11, go_sem, *]) rfl ⟨rfl, (by repeat (first | exact Below.refl _ _ | with_reducible refine Below.alloc ?_ (by first | (simp; done) | (simp; omega) | omega) _ | with_reducible refine Below.setCell ?_ (by first | (simp; done) | (simp; omega) | omega) _ | with_reducible refine Below.drew ?_ | with_reducible refine Below.trans ?_ (Below.mono (by assumption) (by first | (simp; done) | (simp; omega) | omega))))⟩
    · cases h2 : within b
      · go_enter Try.func11, Try.ntmps11
        go_wp2_with (first | (go_at_call 43; refine (rwithin_any _ _).mono ?_; rintro e w' ⟨rfl, rfl⟩))
        exact bodyPost_ret (by simp [results, Try.results11, go_sem, *]) rfl ⟨rfl, (by repeat (first | exact Below.refl _ _ | with_reducible refine Below.alloc ?_ (by first | (simp; done) | (simp; omega) | omega) _ | with_reducible refine Below.setCell ?_ (by first | (simp; done) | (simp; omega) | omega) _ | with_reducible refine Below.drew ?_ | with_reducible refine Below.trans ?_ (Below.mono (by assumption) (by first | (simp; done) | (simp; omega) | omega))))⟩
      · cases h3 : within c
        · go_enter Try.func11, Try.ntmps11
          go_wp2_with (first | (go_at_call 43; refine (rwithin_any _ _).mono ?_; rintro e w' ⟨rfl, rfl⟩))
          exact bodyPost_ret (by simp [results, Try.results11, go_sem, *]) rfl ⟨rfl, (by repeat (first | exact Below.refl _ _ | with_reducible refine Below.alloc ?_ (by first | (simp; done) | (simp; omega) | omega) _ | with_reducible refine Below.setCell ?_ (by first | (simp; done) | (simp; omega) | omega) _ | with_reducible refine Below.drew ?_ | with_reducible refine Below.trans ?_ (Below.mono (by assumption) (by first | (simp; done) | (simp; omega) | omega))))⟩
        · have h4 : within d = false := by simpa [makeOk, h1, h2, h3] using h0
          go_enter Try.func11, Try.ntmps11
          go_wp2_with (first | (go_at_call 43; refine (rwithin_any _ _).mono ?_; rintro e w' ⟨rfl, rfl⟩))
          exact bodyPost_ret (by simp [results, Try.results11, go_sem, *]) rfl ⟨rfl, (by repeat (first | exact Below.refl _ _ | with_reducible refine Below.alloc ?_ (by first | (simp; done) | (simp; omega) | omega) _ | with_reducible refine Below.setCell ?_ (by first | (simp; done) | (simp; omega) | omega) _ | with_reducible refine Below.drew ?_ | with_reducible refine Below.trans ?_ (Below.mono (by assumption) (by first | (simp; done) | (simp; omega) | omega))))⟩
  · rw [show makeR a b c d = fromR (min a c) (min b d) (max a c) (max b d) by simp [makeR, h0], show makeE a b c d = 0 by simp [makeE, h0]]
    obtain ⟨⟨⟨h1, h2⟩, h3⟩, h4⟩ : ((within a = true ∧ within b = true) ∧ within c = true) ∧ within d = true := by simpa [makeOk] using h0
    go_enter Try.func11, Try.ntmps11
    go_wp2_with (first | (go_at_call 43; refine (rwithin_any _ _).mono ?_; rintro e w' ⟨rfl, rfl⟩))
    (refine region_ext mixed (by kernel_rfl) ?_; (repeat (go_big_quiet_step (fail))); refine wpQuiet_nil ?_; intro w1 hb; (first | (have hP1 := hP.trans (hb.mono hP.size); clear hP hb hc hf z0 z1 z2; have hP := hP1; clear hP1) | (have hP := hb; clear hb)); obtain ⟨hc, hf⟩ := bcell hP; have z0 : w.heap.size < w1.heap.size := (by have hz := hP.size; (try simp at hz); omega); have z1 : w.heap.size + 1 < w1.heap.size := (by have hz := hP.size; (try simp at hz); omega); have z2 : w.heap.size + 2 < w1.heap.size := (by have hz := hP.size; (try simp at hz); omega))
    go_wp2
    (refine region_ext mixed (by kernel_rfl) ?_; (repeat (go_big_quiet_step (fail))); refine wpQuiet_nil ?_; intro w1 hb; (first | (have hP1 := hP.trans (hb.mono hP.size); clear hP hb hc hf z0 z1 z2; have hP := hP1; clear hP1) | (have hP := hb; clear hb)); obtain ⟨hc, hf⟩ := bcell hP; have z0 : w.heap.size < w1.heap.size := (by have hz := hP.size; (try simp at hz); omega); have z1 : w.heap.size + 1 < w1.heap.size := (by have hz := hP.size; (try simp at hz); omega); have z2 : w.heap.size + 2 < w1.heap.size := (by have hz := hP.size; (try simp at hz); omega))
    go_wp2_with (first | (go_at_call 44; refine (rfrom_any _ _ _ _ _).mono ?_; rintro e w1 ⟨rfl, hb⟩; (first | (have hP1 := hP.trans (hb.mono hP.size); clear hP hb hc hf z0 z1 z2; have hP := hP1; clear hP1) | (have hP := hb; clear hb)); obtain ⟨hc, hf⟩ := bcell hP; have z0 : w.heap.size < w1.heap.size := (by have hz := hP.size; (try simp at hz); omega); have z1 : w.heap.size + 1 < w1.heap.size := (by have hz := hP.size; (try simp at hz); omega); have z2 : w.heap.size + 2 < w1.heap.size := (by have hz := hP.size; (try simp at hz); omega)))
    exact bodyPost_ret (by simp [results, Try.results11, go_sem, *]) rfl ⟨rfl, (by repeat (first | exact Below.refl _ _ | with_reducible refine Below.alloc ?_ (by first | (simp; done) | (simp; omega) | omega) _ | with_reducible refine Below.setCell ?_ (by first | (simp; done) | (simp; omega) | omega) _ | with_reducible refine Below.drew ?_ | with_reducible refine Below.trans ?_ (Below.mono (by assumption) (by first | (simp; done) | (simp; omega) | omega))))⟩

end Go.Proofs.Ytoinjoihkodkeaa
