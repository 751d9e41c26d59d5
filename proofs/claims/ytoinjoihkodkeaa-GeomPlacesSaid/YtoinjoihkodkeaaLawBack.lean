/- The walk of GeomBack. -/
import Derived.Test.YtoinjoihkodkeaaGeomM
import Derived.Test.YtoinjoihkodkeaaGeomH
import Derived.Test.YtoinjoihkodkeaaLawAreas
import Derived.Test.YtoinjoihkodkeaaBaseMake
namespace Go.Proofs.Ytoinjoihkodkeaa
set_option linter.unusedVariables false
set_option linter.unusedSimpArgs false
open Go.RowKit
attribute [local go_sem] max_fold min_fold

theorem moved_yes {r : Rc} {p q : Int} (h : movedE r p q = 0) (he : empty r = false) : movedR r p q = ⟨r.x + p, r.y + q, r.w, r.h⟩ ∧ (-32768 ≤ p ∧ p ≤ 32768) ∧ (-32768 ≤ q ∧ q ≤ 32768) ∧ may ⟨r.x + p, r.y + q, r.w, r.h⟩ = true := by
  have hm := empty_may he
  unfold movedE at h
  simp only [hm, he, Bool.not_true, Bool.false_eq_true, if_false] at h
  split at h
  · omega
  · rename_i hf
    unfold fitE at h
    split at h
    · rename_i hm2
      refine ⟨?_, ?_, ?_, hm2⟩
      · simp [movedR, hm, he, hf, fitR, hm2]
      · simp [far] at hf
        omega
      · simp [far] at hf
        omega
    · omega
theorem moved_no {r : Rc} {p q : Int} (h : ¬ movedE r p q = 0) (he : empty r = false) : movedE r p q = 9 := by
  have hm := empty_may he
  unfold movedE at h ⊢
  simp only [hm, he, Bool.not_true, Bool.false_eq_true, if_false] at h ⊢
  split
  · rfl
  · rename_i hf
    simp only [hf, Bool.false_eq_true, if_false] at h
    unfold fitE at h ⊢
    split
    · rename_i hm2
      simp [hm2] at h
    · rfl
theorem moved_back {r : Rc} {p q : Int} (he : empty r = false) (hp : -32768 ≤ p ∧ p ≤ 32768) (hq : -32768 ≤ q ∧ q ≤ 32768) (hm2 : may ⟨r.x + p, r.y + q, r.w, r.h⟩ = true) :
    movedE ⟨r.x + p, r.y + q, r.w, r.h⟩ (-p) (-q) = 0 ∧ movedR ⟨r.x + p, r.y + q, r.w, r.h⟩ (-p) (-q) = r := by
  have h1 := (empty_iff r.x r.y r.w r.h).1 he
  have h2 := (may_iff _ _ _ _).1 hm2
  have he2 : empty ⟨r.x + p, r.y + q, r.w, r.h⟩ = false := (empty_iff _ _ _ _).2 (by omega)
  have hf : far (-p) (-q) = false := by simp [far]; omega
  have e1 : r.x + p + -p = r.x := by omega
  have e2 : r.y + q + -q = r.y := by omega
  have hm := empty_may he
  have hm' : may ⟨r.x, r.y, r.w, r.h⟩ = true := hm
  constructor
  · simp [movedE, hm2, he2, hf, fitE, e1, e2, hm']
  · simp [movedR, hm2, he2, hf, fitR, e1, e2, hm']
theorem align_self {r : Rc} {u v : Int} (he : empty r = false) (hu : 0 ≤ u ∧ u ≤ 2) (hv : 0 ≤ v ∧ v ≤ 2) : alignR r r.w r.h u v = r ∧ alignE r r.w r.h u v = 0 := by
  have h1 := (empty_iff r.x r.y r.w r.h).1 he
  have hm := empty_may he
  have hb : alignBad r.w r.h u v = false := by simp [alignBad, side]; omega
  have b1 : ∀ a n t, begin_ a n n t = a := by
    intro a n t
    unfold begin_
    split
    · omega
    · split <;> omega
  have hi : alignIn r r.w r.h u v = r := by simp [alignIn, b1]
  have hw : (r.w == 0) = false := by simp; omega
  have hh : (r.h == 0) = false := by simp; omega
  constructor
  · simp [alignR, hm, hb, hw, hh, hi, fitR]
  · simp [alignE, hm, hb, hw, hh, hi, fitE]
theorem inset_in {r : Rc} {n : Int} (he : empty r = false) (hn : 0 ≤ n ∧ n ≤ 16384) : insetE r n = 0 ∧ inR (insetR r n) r = true := by
  have h1 := (empty_iff r.x r.y r.w r.h).1 he
  have hm := empty_may he
  have hw : within n = true := (within_iff n).2 (by omega)
  have hz : inR zero r = true := by
    have : empty zero = true := by decide
    simp [inR, this]
  have hin : insetIn r n = if r.x + r.w - n ≤ r.x + n ∨ r.y + r.h - n ≤ r.y + n then zero else ⟨r.x + n, r.y + n, r.x + r.w - n - (r.x + n), r.y + r.h - n - (r.y + n)⟩ := by
    unfold insetIn fromR
    split
    · rfl
    · rw [IntWalk.wrap64_in _ (by omega), IntWalk.wrap64_in _ (by omega)]
  have hmz : may zero = true := by decide
  by_cases hc : r.x + r.w - n ≤ r.x + n ∨ r.y + r.h - n ≤ r.y + n
  · rw [if_pos hc] at hin
    constructor
    · simp [insetE, hm, hw, he, hin, fitE, hmz]
    · simp [insetR, hm, hw, he, hin, fitR, hmz, hz]
  · rw [if_neg hc] at hin
    have he2 : empty ⟨r.x + n, r.y + n, r.x + r.w - n - (r.x + n), r.y + r.h - n - (r.y + n)⟩ = false := (empty_iff _ _ _ _).2 (by omega)
    have hm2 := empty_may he2
    constructor
    · simp [insetE, hm, hw, he, hin, fitE, hm2]
    · have : insetR r n = ⟨r.x + n, r.y + n, r.x + r.w - n - (r.x + n), r.y + r.h - n - (r.y + n)⟩ := by simp [insetR, hm, hw, he, hin, fitR, hm2]
      rw [this]
      exact inR_of he2 he (by simp only; omega)
theorem check_is2 {r : Rc} {v : Int} (h : checkE r = v) (w : World) : Calls Try.prog 12 #[.agg #[.int .i64 r.x, .int .i64 r.y, .int .i64 r.w, .int .i64 r.h]] w fun e w' => e = .returned (.int .i64 v) ∧ Below w.heap.size w w' := h ▸ check_any r.x r.y r.w r.h w
theorem empty_is2 {r : Rc} {v : Bool} (h : empty r = v) (w : World) : Calls Try.prog 14 #[.agg #[.int .i64 r.x, .int .i64 r.y, .int .i64 r.w, .int .i64 r.h]] w fun e w' => e = .returned (.bool v) ∧ Below w.heap.size w w' := h ▸ empty_any r.x r.y r.w r.h w
theorem moved_is {r s : Rc} {p q v : Int} (h : movedR r p q = s) (k : movedE r p q = v) (w : World) :
    Calls Try.prog 22 #[.agg #[.int .i64 r.x, .int .i64 r.y, .int .i64 r.w, .int .i64 r.h], .agg #[.int .i64 p, .int .i64 q]] w fun e w' => e = .returned (.tuple #[.agg #[.int .i64 s.x, .int .i64 s.y, .int .i64 s.w, .int .i64 s.h], .int .i64 v]) ∧ Below w.heap.size w w' := by
  subst h
  subst k
  exact moved_any r.x r.y r.w r.h p q w
theorem align_is {r s : Rc} {u v k : Int} (h : alignR r r.w r.h u v = s) (hk : alignE r r.w r.h u v = k) (hu : 0 ≤ u ∧ u ≤ 2) (hv : 0 ≤ v ∧ v ≤ 2) (w : World) :
    Calls Try.prog 24 #[.agg #[.int .i64 r.x, .int .i64 r.y, .int .i64 r.w, .int .i64 r.h], .agg #[.int .i64 r.w, .int .i64 r.h], .int .u8 u, .int .u8 v] w fun e w' => e = .returned (.tuple #[.agg #[.int .i64 s.x, .int .i64 s.y, .int .i64 s.w, .int .i64 s.h], .int .i64 k]) ∧ Below w.heap.size w w' := by
  subst h
  subst hk
  exact align_any r.x r.y r.w r.h r.w r.h u v w (by omega) (by omega)
theorem inset_is {r s : Rc} {n k : Int} (h : insetR r n = s) (hk : insetE r n = k) (w : World) :
    Calls Try.prog 20 #[.agg #[.int .i64 r.x, .int .i64 r.y, .int .i64 r.w, .int .i64 r.h], .int .i64 n] w fun e w' => e = .returned (.tuple #[.agg #[.int .i64 s.x, .int .i64 s.y, .int .i64 s.w, .int .i64 s.h], .int .i64 k]) ∧ Below w.heap.size w w' := by
  subst h
  subst hk
  exact inset_any r.x r.y r.w r.h n w
theorem in_is2 {r s : Rc} {v : Bool} (h : inR r s = v) (w : World) : Calls Try.prog 31 #[.agg #[.int .i64 r.x, .int .i64 r.y, .int .i64 r.w, .int .i64 r.h], .agg #[.int .i64 s.x, .int .i64 s.y, .int .i64 s.w, .int .i64 s.h]] w fun e w' => e = .returned (.bool v) ∧ Below w.heap.size w w' := h ▸ in_any r.x r.y r.w r.h s.x s.y s.w s.h w

set_option maxHeartbeats 1000000 in
theorem back_not (r : Rc) (p q u v : Int) (w0 : World) (h : may r = false) : Calls Try.prog 8 #[.agg #[.int .i64 r.x, .int .i64 r.y, .int .i64 r.w, .int .i64 r.h], .agg #[.int .i64 p, .int .i64 q], .int .u8 u, .int .u8 v] w0 fun e w' => e = .returned (.bool true) ∧ Below w0.heap.size w0 w' := by
  have hk : checkE r = 5 := by simp [checkE, h]
  go_enter Try.func8, Try.ntmps8
  go_wp2_with fail; refine (alive_any _).mono ?_; rintro e w1 ⟨rfl, hb1⟩; have hs1 := hb1.size; (try simp at hs1); have hA1 := (hb1.block _ (lt_of_block (heap_alloc2_old w0 _ _))).trans (heap_alloc2_old w0 _ _); have kA1 := blk_cell hA1; have lA1 := lt_of_block hA1; have hP1 := (hb1.block _ (lt_of_block (heap_alloc2_new w0 _ _))).trans (heap_alloc2_new w0 _ _); have kP1 := blk_cell hP1; have lP1 := lt_of_block hP1
  go_wp2_with fail; refine (check_is2 hk _).mono ?_; rintro e w2 ⟨rfl, hb2⟩; have hs2 := hb2.size; (try simp at hs2); have hA2 := (hb2.block _ (lt_of_block hA1)).trans hA1; have kA2 := blk_cell hA2; have lA2 := lt_of_block hA2; (try clear kA1); have hP2 := (hb2.block _ (lt_of_block hP1)).trans hP1; have kP2 := blk_cell hP2; have lP2 := lt_of_block hP2; (try clear kP1)
  go_wp2
  go_ret
  exact ⟨rfl, (by repeat (first | exact Below.refl _ _ | with_reducible refine Below.alloc ?_ (by first | (simp; done) | (simp; omega) | omega) _ | with_reducible refine Below.setCell ?_ (by first | (simp; done) | (simp; omega) | omega) _ | with_reducible refine Below.drew ?_ | with_reducible refine Below.trans ?_ (Below.mono (by assumption) (by first | (simp; done) | (simp; omega) | omega))))⟩
set_option maxHeartbeats 1000000 in
theorem back_empty (r : Rc) (p q u v : Int) (w0 : World) (h : may r = true) (he : empty r = true) : Calls Try.prog 8 #[.agg #[.int .i64 r.x, .int .i64 r.y, .int .i64 r.w, .int .i64 r.h], .agg #[.int .i64 p, .int .i64 q], .int .u8 u, .int .u8 v] w0 fun e w' => e = .returned (.bool true) ∧ Below w0.heap.size w0 w' := by
  have hk : checkE r = 0 := by simp [checkE, h]
  go_enter Try.func8, Try.ntmps8
  go_wp2_with fail; refine (alive_any _).mono ?_; rintro e w1 ⟨rfl, hb1⟩; have hs1 := hb1.size; (try simp at hs1); have hA1 := (hb1.block _ (lt_of_block (heap_alloc2_old w0 _ _))).trans (heap_alloc2_old w0 _ _); have kA1 := blk_cell hA1; have lA1 := lt_of_block hA1; have hP1 := (hb1.block _ (lt_of_block (heap_alloc2_new w0 _ _))).trans (heap_alloc2_new w0 _ _); have kP1 := blk_cell hP1; have lP1 := lt_of_block hP1
  go_wp2_with fail; refine (check_is2 hk _).mono ?_; rintro e w2 ⟨rfl, hb2⟩; have hs2 := hb2.size; (try simp at hs2); have hA2 := (hb2.block _ (lt_of_block hA1)).trans hA1; have kA2 := blk_cell hA2; have lA2 := lt_of_block hA2; (try clear kA1); have hP2 := (hb2.block _ (lt_of_block hP1)).trans hP1; have kP2 := blk_cell hP2; have lP2 := lt_of_block hP2; (try clear kP1)
  go_wp2_with fail; refine (empty_is2 he _).mono ?_; rintro e w3 ⟨rfl, hb3⟩; have hs3 := hb3.size; (try simp at hs3); have hA3 := (hb3.block _ (lt_of_block hA2)).trans hA2; have kA3 := blk_cell hA3; have lA3 := lt_of_block hA3; (try clear kA2); have hP3 := (hb3.block _ (lt_of_block hP2)).trans hP2; have kP3 := blk_cell hP3; have lP3 := lt_of_block hP3; (try clear kP2)
  go_wp2
  go_ret
  exact ⟨rfl, (by repeat (first | exact Below.refl _ _ | with_reducible refine Below.alloc ?_ (by first | (simp; done) | (simp; omega) | omega) _ | with_reducible refine Below.setCell ?_ (by first | (simp; done) | (simp; omega) | omega) _ | with_reducible refine Below.drew ?_ | with_reducible refine Below.trans ?_ (Below.mono (by assumption) (by first | (simp; done) | (simp; omega) | omega))))⟩
set_option maxHeartbeats 2000000 in
theorem back_no (r : Rc) (p q u v : Int) (w0 : World) (he : empty r = false) (hE : movedE r p q = 9) (hu : 0 ≤ u ∧ u ≤ 255) (hv : 0 ≤ v ∧ v ≤ 255) : Calls Try.prog 8 #[.agg #[.int .i64 r.x, .int .i64 r.y, .int .i64 r.w, .int .i64 r.h], .agg #[.int .i64 p, .int .i64 q], .int .u8 u, .int .u8 v] w0 fun e w' => e = .returned (.bool true) ∧ Below w0.heap.size w0 w' := by
  have hk : checkE r = 0 := by simp [checkE, empty_may he]
  obtain ⟨s, hs⟩ : ∃ s, movedR r p q = s := ⟨_, rfl⟩
  obtain ⟨i, hi⟩ : ∃ i, insetR r (max 0 (min p 16384)) = i := ⟨_, rfl⟩
  have hI := inset_in (n := max 0 (min p 16384)) he (by omega)
  rw [hi] at hI
  have hA := align_self (u := u % 3) (v := v % 3) he (by omega) (by omega)
  have H1 := Go.Lib.hid hk
  have H2 := Go.Lib.hid he
  have H3 := Go.Lib.hid hs
  have H4 := Go.Lib.hid hE
  have H5 := Go.Lib.hid hi
  have H6 := Go.Lib.hid hI
  have H7 := Go.Lib.hid hA
  clear hk he hs hE hi hI hA
  go_enter Try.func8, Try.ntmps8
  go_wp2_with fail; refine (alive_any _).mono ?_; rintro e w1 ⟨rfl, hb1⟩; have hs1 := hb1.size; (try simp at hs1); have hA1 := (hb1.block _ (lt_of_block (heap_alloc2_old w0 _ _))).trans (heap_alloc2_old w0 _ _); have kA1 := blk_cell hA1; have lA1 := lt_of_block hA1; have hP1 := (hb1.block _ (lt_of_block (heap_alloc2_new w0 _ _))).trans (heap_alloc2_new w0 _ _); have kP1 := blk_cell hP1; have lP1 := lt_of_block hP1
  go_wp2_with fail; refine (check_is2 H1.out _).mono ?_; rintro e w2 ⟨rfl, hb2⟩; have hs2 := hb2.size; (try simp at hs2); have hA2 := (hb2.block _ (lt_of_block hA1)).trans hA1; have kA2 := blk_cell hA2; have lA2 := lt_of_block hA2; (try clear kA1); have hP2 := (hb2.block _ (lt_of_block hP1)).trans hP1; have kP2 := blk_cell hP2; have lP2 := lt_of_block hP2; (try clear kP1)
  go_wp2_with fail; refine (empty_is2 H2.out _).mono ?_; rintro e w3 ⟨rfl, hb3⟩; have hs3 := hb3.size; (try simp at hs3); have hA3 := (hb3.block _ (lt_of_block hA2)).trans hA2; have kA3 := blk_cell hA3; have lA3 := lt_of_block hA3; (try clear kA2); have hP3 := (hb3.block _ (lt_of_block hP2)).trans hP2; have kP3 := blk_cell hP3; have lP3 := lt_of_block hP3; (try clear kP2)
  go_wp2_with fail; refine (moved_is H3.out H4.out _).mono ?_; rintro e w4 ⟨rfl, hb4⟩; have hs4 := hb4.size; (try simp at hs4); have hA4 := (hb4.block _ (lt_of_block hA3)).trans hA3; have kA4 := blk_cell hA4; have lA4 := lt_of_block hA4; (try clear kA3); have hP4 := (hb4.block _ (lt_of_block hP3)).trans hP3; have kP4 := blk_cell hP4; have lP4 := lt_of_block hP4; (try clear kP3)
  go_wp2_with fail; refine (align_is H7.out.1 H7.out.2 (by omega) (by omega) _).mono ?_; rintro e w5 ⟨rfl, hb5⟩; have hs5 := hb5.size; (try simp at hs5); have hA5 := (hb5.block _ (lt_of_block ((heap_alloc_old _ _ lA4).trans hA4))).trans ((heap_alloc_old _ _ lA4).trans hA4); have kA5 := blk_cell hA5; have lA5 := lt_of_block hA5; (try clear kA4); have hP5 := (hb5.block _ (lt_of_block ((heap_alloc_old _ _ lP4).trans hP4))).trans ((heap_alloc_old _ _ lP4).trans hP4); have kP5 := blk_cell hP5; have lP5 := lt_of_block hP5; (try clear kP4); have hB5 := (hb5.block _ (lt_of_block (heap_alloc_new w4 _))).trans (heap_alloc_new w4 _); have kB5 := blk_cell hB5; have lB5 := lt_of_block hB5
  go_wp2_with fail; refine (inset_is H5.out H6.out.1 _).mono ?_; rintro e w6 ⟨rfl, hb6⟩; have hs6 := hb6.size; (try simp at hs6); have hA6 := (hb6.block _ (lt_of_block ((heap_alloc_old _ _ lA5).trans hA5))).trans ((heap_alloc_old _ _ lA5).trans hA5); have kA6 := blk_cell hA6; have lA6 := lt_of_block hA6; (try clear kA5); have hP6 := (hb6.block _ (lt_of_block ((heap_alloc_old _ _ lP5).trans hP5))).trans ((heap_alloc_old _ _ lP5).trans hP5); have kP6 := blk_cell hP6; have lP6 := lt_of_block hP6; (try clear kP5); have hB6 := (hb6.block _ (lt_of_block ((heap_alloc_old _ _ lB5).trans hB5))).trans ((heap_alloc_old _ _ lB5).trans hB5); have kB6 := blk_cell hB6; have lB6 := lt_of_block hB6; (try clear kB5); have hS6 := (hb6.block _ (lt_of_block (heap_alloc_new w5 _))).trans (heap_alloc_new w5 _); have kS6 := blk_cell hS6; have lS6 := lt_of_block hS6
  go_wp2_with fail; refine (in_is2 H6.out.2 _).mono ?_; rintro e w7 ⟨rfl, hb7⟩; have hs7 := hb7.size; (try simp at hs7); have hA7 := (hb7.block _ (lt_of_block ((heap_alloc_old _ _ lA6).trans hA6))).trans ((heap_alloc_old _ _ lA6).trans hA6); have kA7 := blk_cell hA7; have lA7 := lt_of_block hA7; (try clear kA6); have hP7 := (hb7.block _ (lt_of_block ((heap_alloc_old _ _ lP6).trans hP6))).trans ((heap_alloc_old _ _ lP6).trans hP6); have kP7 := blk_cell hP7; have lP7 := lt_of_block hP7; (try clear kP6); have hB7 := (hb7.block _ (lt_of_block ((heap_alloc_old _ _ lB6).trans hB6))).trans ((heap_alloc_old _ _ lB6).trans hB6); have kB7 := blk_cell hB7; have lB7 := lt_of_block hB7; (try clear kB6); have hS7 := (hb7.block _ (lt_of_block ((heap_alloc_old _ _ lS6).trans hS6))).trans ((heap_alloc_old _ _ lS6).trans hS6); have kS7 := blk_cell hS7; have lS7 := lt_of_block hS7; (try clear kS6); have hI7 := (hb7.block _ (lt_of_block (heap_alloc_new w6 _))).trans (heap_alloc_new w6 _); have kI7 := blk_cell hI7; have lI7 := lt_of_block hI7
  go_wp2
  go_ret
  exact ⟨rfl, (by repeat (first | exact Below.refl _ _ | with_reducible refine Below.alloc ?_ (by first | (simp; done) | (simp; omega) | omega) _ | with_reducible refine Below.setCell ?_ (by first | (simp; done) | (simp; omega) | omega) _ | with_reducible refine Below.drew ?_ | with_reducible refine Below.trans ?_ (Below.mono (by assumption) (by first | (simp; done) | (simp; omega) | omega))))⟩
set_option maxHeartbeats 2000000 in
theorem back_yes (r : Rc) (p q u v : Int) (w0 : World) (he : empty r = false) (hE : movedE r p q = 0) (hu : 0 ≤ u ∧ u ≤ 255) (hv : 0 ≤ v ∧ v ≤ 255) : Calls Try.prog 8 #[.agg #[.int .i64 r.x, .int .i64 r.y, .int .i64 r.w, .int .i64 r.h], .agg #[.int .i64 p, .int .i64 q], .int .u8 u, .int .u8 v] w0 fun e w' => e = .returned (.bool true) ∧ Below w0.heap.size w0 w' := by
  have hk : checkE r = 0 := by simp [checkE, empty_may he]
  obtain ⟨hs, hp, hq, hm2⟩ := moved_yes hE he
  obtain ⟨hE2, hs2⟩ := moved_back he hp hq hm2
  obtain ⟨i, hi⟩ : ∃ i, insetR r (max 0 (min p 16384)) = i := ⟨_, rfl⟩
  have hI := inset_in (n := max 0 (min p 16384)) he (by omega)
  rw [hi] at hI
  have hA := align_self (u := u % 3) (v := v % 3) he (by omega) (by omega)
  obtain ⟨s, hsw, hsh, hse⟩ : ∃ s : Rc, s.w = r.w ∧ s.h = r.h ∧ s = ⟨r.x + p, r.y + q, r.w, r.h⟩ := ⟨⟨r.x + p, r.y + q, r.w, r.h⟩, rfl, rfl, rfl⟩
  rw [← hse] at hs hE2 hs2
  clear hse hm2
  obtain ⟨sx, sy, sw, sh⟩ := s
  simp only at hsw hsh
  subst hsw
  subst hsh
  have H1 := Go.Lib.hid hk
  have H2 := Go.Lib.hid he
  have H3 := Go.Lib.hid hs
  have H4 := Go.Lib.hid hE
  have H5 := Go.Lib.hid hi
  have H6 := Go.Lib.hid hI
  have H7 := Go.Lib.hid hA
  have H8 := Go.Lib.hid hs2
  have H9 := Go.Lib.hid hE2
  clear hk he hs hE hi hI hA hs2 hE2
  go_enter Try.func8, Try.ntmps8
  go_wp2_with fail; refine (alive_any _).mono ?_; rintro e w1 ⟨rfl, hb1⟩; have hs1 := hb1.size; (try simp at hs1); have hA1 := (hb1.block _ (lt_of_block (heap_alloc2_old w0 _ _))).trans (heap_alloc2_old w0 _ _); have kA1 := blk_cell hA1; have lA1 := lt_of_block hA1; have hP1 := (hb1.block _ (lt_of_block (heap_alloc2_new w0 _ _))).trans (heap_alloc2_new w0 _ _); have kP1 := blk_cell hP1; have lP1 := lt_of_block hP1
  go_wp2_with fail; refine (check_is2 H1.out _).mono ?_; rintro e w2 ⟨rfl, hb2⟩; have hs2 := hb2.size; (try simp at hs2); have hA2 := (hb2.block _ (lt_of_block hA1)).trans hA1; have kA2 := blk_cell hA2; have lA2 := lt_of_block hA2; (try clear kA1); have hP2 := (hb2.block _ (lt_of_block hP1)).trans hP1; have kP2 := blk_cell hP2; have lP2 := lt_of_block hP2; (try clear kP1)
  go_wp2_with fail; refine (empty_is2 H2.out _).mono ?_; rintro e w3 ⟨rfl, hb3⟩; have hs3 := hb3.size; (try simp at hs3); have hA3 := (hb3.block _ (lt_of_block hA2)).trans hA2; have kA3 := blk_cell hA3; have lA3 := lt_of_block hA3; (try clear kA2); have hP3 := (hb3.block _ (lt_of_block hP2)).trans hP2; have kP3 := blk_cell hP3; have lP3 := lt_of_block hP3; (try clear kP2)
  go_wp2_with fail; refine (moved_is H3.out H4.out _).mono ?_; rintro e w4 ⟨rfl, hb4⟩; have hs4 := hb4.size; (try simp at hs4); have hA4 := (hb4.block _ (lt_of_block hA3)).trans hA3; have kA4 := blk_cell hA4; have lA4 := lt_of_block hA4; (try clear kA3); have hP4 := (hb4.block _ (lt_of_block hP3)).trans hP3; have kP4 := blk_cell hP4; have lP4 := lt_of_block hP4; (try clear kP3)
  go_wp2_with fail; refine (moved_is H8.out H9.out _).mono ?_; rintro e w5 ⟨rfl, hb5⟩; have hs5 := hb5.size; (try simp at hs5); have hA5 := (hb5.block _ (lt_of_block ((heap_alloc_old _ _ lA4).trans hA4))).trans ((heap_alloc_old _ _ lA4).trans hA4); have kA5 := blk_cell hA5; have lA5 := lt_of_block hA5; (try clear kA4); have hP5 := (hb5.block _ (lt_of_block ((heap_alloc_old _ _ lP4).trans hP4))).trans ((heap_alloc_old _ _ lP4).trans hP4); have kP5 := blk_cell hP5; have lP5 := lt_of_block hP5; (try clear kP4); have hB5 := (hb5.block _ (lt_of_block (heap_alloc_new w4 _))).trans (heap_alloc_new w4 _); have kB5 := blk_cell hB5; have lB5 := lt_of_block hB5
  go_wp2_with fail; refine (align_is H7.out.1 H7.out.2 (by omega) (by omega) _).mono ?_; rintro e w6 ⟨rfl, hb6⟩; have hs6 := hb6.size; (try simp at hs6); have hA6 := (hb6.block _ (lt_of_block ((heap_alloc_old _ _ lA5).trans hA5))).trans ((heap_alloc_old _ _ lA5).trans hA5); have kA6 := blk_cell hA6; have lA6 := lt_of_block hA6; (try clear kA5); have hP6 := (hb6.block _ (lt_of_block ((heap_alloc_old _ _ lP5).trans hP5))).trans ((heap_alloc_old _ _ lP5).trans hP5); have kP6 := blk_cell hP6; have lP6 := lt_of_block hP6; (try clear kP5); have hB6 := (hb6.block _ (lt_of_block ((heap_alloc_old _ _ lB5).trans hB5))).trans ((heap_alloc_old _ _ lB5).trans hB5); have kB6 := blk_cell hB6; have lB6 := lt_of_block hB6; (try clear kB5); have hC6 := (hb6.block _ (lt_of_block (heap_alloc_new w5 _))).trans (heap_alloc_new w5 _); have kC6 := blk_cell hC6; have lC6 := lt_of_block hC6
  go_wp2_with fail; refine (inset_is H5.out H6.out.1 _).mono ?_; rintro e w7 ⟨rfl, hb7⟩; have hs7 := hb7.size; (try simp at hs7); have hA7 := (hb7.block _ (lt_of_block ((heap_alloc_old _ _ lA6).trans hA6))).trans ((heap_alloc_old _ _ lA6).trans hA6); have kA7 := blk_cell hA7; have lA7 := lt_of_block hA7; (try clear kA6); have hP7 := (hb7.block _ (lt_of_block ((heap_alloc_old _ _ lP6).trans hP6))).trans ((heap_alloc_old _ _ lP6).trans hP6); have kP7 := blk_cell hP7; have lP7 := lt_of_block hP7; (try clear kP6); have hB7 := (hb7.block _ (lt_of_block ((heap_alloc_old _ _ lB6).trans hB6))).trans ((heap_alloc_old _ _ lB6).trans hB6); have kB7 := blk_cell hB7; have lB7 := lt_of_block hB7; (try clear kB6); have hC7 := (hb7.block _ (lt_of_block ((heap_alloc_old _ _ lC6).trans hC6))).trans ((heap_alloc_old _ _ lC6).trans hC6); have kC7 := blk_cell hC7; have lC7 := lt_of_block hC7; (try clear kC6); have hS7 := (hb7.block _ (lt_of_block (heap_alloc_new w6 _))).trans (heap_alloc_new w6 _); have kS7 := blk_cell hS7; have lS7 := lt_of_block hS7
  go_wp2_with fail; refine (in_is2 H6.out.2 _).mono ?_; rintro e w8 ⟨rfl, hb8⟩; have hs8 := hb8.size; (try simp at hs8); have hA8 := (hb8.block _ (lt_of_block ((heap_alloc_old _ _ lA7).trans hA7))).trans ((heap_alloc_old _ _ lA7).trans hA7); have kA8 := blk_cell hA8; have lA8 := lt_of_block hA8; (try clear kA7); have hP8 := (hb8.block _ (lt_of_block ((heap_alloc_old _ _ lP7).trans hP7))).trans ((heap_alloc_old _ _ lP7).trans hP7); have kP8 := blk_cell hP8; have lP8 := lt_of_block hP8; (try clear kP7); have hB8 := (hb8.block _ (lt_of_block ((heap_alloc_old _ _ lB7).trans hB7))).trans ((heap_alloc_old _ _ lB7).trans hB7); have kB8 := blk_cell hB8; have lB8 := lt_of_block hB8; (try clear kB7); have hS8 := (hb8.block _ (lt_of_block ((heap_alloc_old _ _ lS7).trans hS7))).trans ((heap_alloc_old _ _ lS7).trans hS7); have kS8 := blk_cell hS8; have lS8 := lt_of_block hS8; (try clear kS7); have hI8 := (hb8.block _ (lt_of_block (heap_alloc_new w7 _))).trans (heap_alloc_new w7 _); have kI8 := blk_cell hI8; have lI8 := lt_of_block hI8
  go_wp2
  go_ret
  exact ⟨rfl, (by repeat (first | exact Below.refl _ _ | with_reducible refine Below.alloc ?_ (by first | (simp; done) | (simp; omega) | omega) _ | with_reducible refine Below.setCell ?_ (by first | (simp; done) | (simp; omega) | omega) _ | with_reducible refine Below.drew ?_ | with_reducible refine Below.trans ?_ (Below.mono (by assumption) (by first | (simp; done) | (simp; omega) | omega))))⟩

theorem walkGeomBack (x y a b p q u : Int) (hu : 0 ≤ u ∧ u ≤ 255) (v : Int) (hv : 0 ≤ v ∧ v ≤ 255) (w : World) :
    Calls Try.prog 8 #[.agg #[.int .i64 x, .int .i64 y, .int .i64 a, .int .i64 b], .agg #[.int .i64 p, .int .i64 q], .int .u8 u, .int .u8 v] w fun e w' => e = .returned (.bool true) ∧ Below w.heap.size w w' := by
  cases hm : may ⟨x, y, a, b⟩
  · exact back_not ⟨x, y, a, b⟩ p q u v w hm
  · cases he : empty ⟨x, y, a, b⟩
    · by_cases hE : movedE ⟨x, y, a, b⟩ p q = 0
      · exact back_yes ⟨x, y, a, b⟩ p q u v w he hE hu hv
      · exact back_no ⟨x, y, a, b⟩ p q u v w he (moved_no hE he) hu hv
    · exact back_empty ⟨x, y, a, b⟩ p q u v w hm he
end Go.Proofs.Ytoinjoihkodkeaa
