/- Layer 1: the statements' own helpers r, has, alive. -/
import Derived.Test.YtoinjoihkodkeaaGeomL
namespace Go.Proofs.Ytoinjoihkodkeaa
set_option linter.unusedVariables false
set_option linter.unusedSimpArgs false
open Go.RowKit
attribute [local go_sem] max_fold min_fold

set_option maxHeartbeats 400000 in
theorem r_any (x y a b : Int) (w : World) :
    Calls Try.prog 40 #[.int .i64 x, .int .i64 y, .int .i64 a, .int .i64 b] w fun e w' => e = .returned (.agg #[.int .i64 x, .int .i64 y, .int .i64 a, .int .i64 b]) ∧ Below w.heap.size w w' := by
  go_enter Try.func40, Try.ntmps40
  go_wp2
  exact bodyPost_ret (by simp [results, Try.results40, go_sem, *]) rfl ⟨rfl, (by repeat (first | exact Below.refl _ _ | with_reducible refine Below.alloc ?_ (by first | (simp; done) | (simp; omega) | omega) _ | with_reducible refine Below.setCell ?_ (by first | (simp; done) | (simp; omega) | omega) _ | with_reducible refine Below.drew ?_ | with_reducible refine Below.trans ?_ (Below.mono (by assumption) (by first | (simp; done) | (simp; omega) | omega))))⟩

theorem alive_list : lessL ⟨0, 0, 4, 4⟩ ⟨1, 1, 2, 2⟩ = [⟨0, 0, 4, 1⟩, ⟨0, 1, 1, 2⟩, ⟨3, 1, 1, 2⟩, ⟨0, 3, 4, 1⟩] := by decide +kernel
theorem alive_err : lessE ⟨0, 0, 4, 4⟩ ⟨1, 1, 2, 2⟩ = 0 := by decide +kernel
theorem alive_meet : meet ⟨0, 0, 4, 4⟩ ⟨2, 1, 9, 2⟩ = ⟨2, 1, 2, 2⟩ := by decide +kernel
theorem alive_area : area ⟨0, 0, 3, 4⟩ = 12 := by decide +kernel
theorem alive_less (w : World) : Calls Try.prog 28 #[.agg #[.int .i64 0, .int .i64 0, .int .i64 4, .int .i64 4], .agg #[.int .i64 1, .int .i64 1, .int .i64 2, .int .i64 2]] w fun e w' =>
    ∃ g c, e = .returned (.tuple #[.slice (some ⟨g, 0, none⟩) 4 c, .int .i64 0]) ∧ g < w'.heap.size ∧ w'.cell? ⟨g, 0, none⟩ = some (.int .i64 0) ∧ w'.cell? ⟨g, 1, none⟩ = some (.int .i64 0) ∧ w'.cell? ⟨g, 2, none⟩ = some (.int .i64 4) ∧ w'.cell? ⟨g, 3, none⟩ = some (.int .i64 1) ∧
      w'.cell? ⟨g, 12, none⟩ = some (.int .i64 0) ∧ w'.cell? ⟨g, 13, none⟩ = some (.int .i64 3) ∧ w'.cell? ⟨g, 14, none⟩ = some (.int .i64 4) ∧ w'.cell? ⟨g, 15, none⟩ = some (.int .i64 1) ∧ Below w.heap.size w w' := by
  have h := less_any 0 0 4 4 1 1 2 2 w
  rw [alive_list, alive_err] at h
  refine h.mono fun e w' => ?_
  rintro ⟨A, c, rfl, hown, hb⟩
  obtain ⟨g, rfl, hg, hc⟩ := (RowAt.of_own hown) (by decide)
  have c0 := hc 0 (by decide)
  have c3 := hc 3 (by decide)
  exact ⟨g, c, rfl, hg, c0.1, c0.2.1, c0.2.2.1, c0.2.2.2, c3.1, c3.2.1, c3.2.2.1, c3.2.2.2, hb⟩
theorem meet_lit (w : World) : Calls Try.prog 35 #[.agg #[.int .i64 0, .int .i64 0, .int .i64 4, .int .i64 4], .agg #[.int .i64 2, .int .i64 1, .int .i64 9, .int .i64 2]] w fun e w' => e = .returned (.agg #[.int .i64 2, .int .i64 1, .int .i64 2, .int .i64 2]) ∧ Below w.heap.size w w' := by
  have h := meet_any 0 0 4 4 2 1 9 2 w
  rwa [alive_meet] at h
theorem area_lit (w : World) : Calls Try.prog 16 #[.agg #[.int .i64 0, .int .i64 0, .int .i64 3, .int .i64 4]] w fun e w' => e = .returned (.int .i64 12) ∧ Below w.heap.size w w' := by
  have h := area_any 0 0 3 4 w
  rwa [alive_area] at h

set_option maxHeartbeats 2000000 in
theorem alive_any (w : World) : Calls Try.prog 37 #[] w fun e w' => e = .returned (.bool true) ∧ Below w.heap.size w w' := by
  go_enter Try.func37, Try.ntmps37
  go_wp2_with (first | (go_at_call 40; refine (r_any _ _ _ _ _).mono ?_; rintro e w1 ⟨rfl, hb⟩; (first | (have hP1 := hP.trans (hb.mono hP.size); clear hP hb hc hf ; have hP := hP1; clear hP1) | (have hP := hb; clear hb)); obtain ⟨hc, hf⟩ := bcell hP) | (go_at_call 28; refine (alive_less _).mono ?_; rintro e w2 ⟨g, c, rfl, hg, c0, c1, c2, c3, d0, d1, d2, d3, hb2⟩))
  refine region_ext mixed (by kernel_rfl) ?_
  repeat (go_big_quiet_step (first | (go_at_call 40; exact in_ext (r_any _ _ _ _ _)) | (go_at_call 35; exact in_ext (meet_lit _)) | (go_at_call 16; exact in_ext (area_lit _))))
  refine wpQuiet_nil ?_
  intro w3 hb3
  go_wp2
  go_ret
  have s1 := hP.size
  have s2 := hb2.size
  exact ⟨rfl, (by repeat (first | exact Below.refl _ _ | with_reducible refine Below.alloc ?_ (by first | (simp; done) | (simp; omega) | omega) _ | with_reducible refine Below.setCell ?_ (by first | (simp; done) | (simp; omega) | omega) _ | with_reducible refine Below.drew ?_ | with_reducible refine Below.trans ?_ (Below.mono (by assumption) (by first | (simp; done) | (simp; omega) | omega))))⟩
end Go.Proofs.Ytoinjoihkodkeaa
