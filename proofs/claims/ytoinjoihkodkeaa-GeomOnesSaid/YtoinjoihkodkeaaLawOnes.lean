/- The walk of GeomOnes. -/
import Derived.Test.YtoinjoihkodkeaaGeomE
namespace Go.Proofs.Ytoinjoihkodkeaa
set_option linter.unusedVariables false
set_option linter.unusedSimpArgs false
open Go.RowKit
attribute [local go_sem] max_fold min_fold
set_option maxHeartbeats 2000000 in
theorem walkGeomOnes (x y a b p q c d : Int) (w : World) :
    Calls Try.prog 3 #[.agg #[.int .i64 x, .int .i64 y, .int .i64 a, .int .i64 b], .agg #[.int .i64 p, .int .i64 q], .agg #[.int .i64 c, .int .i64 d]] w fun e w' => e = .returned (.bool true) ∧ Below w.heap.size w w' := by
  go_enter Try.func3, Try.ntmps3
  go_wp2_with (first | (go_at_call 10; refine (make_any _ _ _ _ _).mono ?_; rintro e w1 ⟨rfl, hb1⟩; obtain ⟨hc1, hf1⟩ := bcell hb1; have hs1 := hb1.size; (try simp at hs1); have z1_0 : w.heap.size < w1.heap.size := (by omega); have y1_0 : w.heap.size < w1.heap.size + 1 := (by omega); have z1_1 : w.heap.size + 1 < w1.heap.size := (by omega); have y1_1 : w.heap.size + 1 < w1.heap.size + 1 := (by omega); have z1_2 : w.heap.size + 1 + 1 < w1.heap.size := (by omega); have y1_2 : w.heap.size + 1 + 1 < w1.heap.size + 1 := (by omega)) | (go_at_call 11; refine (rmake_any _ _ _ _ _).mono ?_; rintro e w2 ⟨rfl, hb2⟩; obtain ⟨hc2, hf2⟩ := bcell hb2; have hs2 := hb2.size; (try simp at hs2); have z2_0 : w.heap.size < w2.heap.size := (by omega); have y2_0 : w.heap.size < w2.heap.size + 1 := (by omega); have z2_1 : w.heap.size + 1 < w2.heap.size := (by omega); have y2_1 : w.heap.size + 1 < w2.heap.size + 1 := (by omega); have z2_2 : w.heap.size + 1 + 1 < w2.heap.size := (by omega); have y2_2 : w.heap.size + 1 + 1 < w2.heap.size + 1 := (by omega); have z2_3 : w1.heap.size < w2.heap.size := (by omega); have y2_3 : w1.heap.size < w2.heap.size + 1 := (by omega)))
  refine region_ext mixed (by kernel_rfl) ?_
  repeat (go_big_quiet_step (first | (go_at_call 12; exact in_ext (check_any _ _ _ _ _)) | (go_at_call 13; exact in_ext (rcheck_any _ _ _ _ _)) | (go_at_call 14; exact in_ext (empty_any _ _ _ _ _)) | (go_at_call 15; exact in_ext (rempty_any _ _ _ _ _)) | (go_at_call 16; exact in_ext (area_any _ _ _ _ _)) | (go_at_call 17; exact in_ext (rarea_any _ _ _ _ _)) | (go_at_call 18; exact in_ext (has_any _ _ _ _ _ _ _)) | (go_at_call 19; exact in_ext (rhas_any _ _ _ _ _ _ _))))
  refine wpQuiet_nil ?_
  intro w3 hb3
  go_wp2
  go_ret
  exact ⟨rfl, (by repeat (first | exact Below.refl _ _ | with_reducible refine Below.alloc ?_ (by first | (simp; done) | (simp; omega) | omega) _ | with_reducible refine Below.setCell ?_ (by first | (simp; done) | (simp; omega) | omega) _ | with_reducible refine Below.drew ?_ | with_reducible refine Below.trans ?_ (Below.mono (by assumption) (by first | (simp; done) | (simp; omega) | omega))))⟩
end Go.Proofs.Ytoinjoihkodkeaa
