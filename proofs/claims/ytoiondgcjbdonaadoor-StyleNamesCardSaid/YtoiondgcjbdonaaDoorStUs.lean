/- Layer 5: the usual rules, on both sides. (Printed by gen_us.py.) -/
import Derived.Test.YtoiondgcjbdonaaDoorStZ
namespace Go.Proofs.YtoiondgcjbdonaaDoor
set_option linter.unusedVariables false
set_option linter.unusedSimpArgs false
set_option maxRecDepth 100000
open Go.RowKit Go.Shelf Go.Lib Go.Sort

/-- The usual rules. -/
def US : List Ru := [⟨0, { data := #[] }, 0, ⟨3, ⟨0, 0, 0, 255⟩, ⟨255, 255, 255, 255⟩, false, 0⟩⟩, ⟨2, { data := #[] }, 0, ⟨12, ⟨0, 0, 0, 0⟩, ⟨0, 0, 0, 0⟩, true, 1⟩⟩, ⟨3, { data := #[] }, 0, ⟨4, ⟨0, 0, 0, 0⟩, ⟨0, 0, 0, 0⟩, true, 0⟩⟩, ⟨0, { data := #[] }, 1, ⟨2, ⟨0, 0, 0, 0⟩, ⟨204, 221, 255, 255⟩, false, 0⟩⟩, ⟨0, { data := #[] }, 4, ⟨2, ⟨0, 0, 0, 0⟩, ⟨153, 187, 255, 255⟩, false, 0⟩⟩, ⟨0, { data := #[] }, 8, ⟨1, ⟨136, 136, 136, 255⟩, ⟨0, 0, 0, 0⟩, false, 0⟩⟩]
theorem US_in : ∀ r ∈ US, r.In := by
  intro r hr
  simp only [US, List.mem_cons, List.mem_nil_iff, or_false] at hr
  rcases hr with rfl | rfl | rfl | rfl | rfl | rfl
  all_goals exact ⟨by decide, by decide, ⟨by decide, by unfold Cl.In; decide, by unfold Cl.In; decide⟩, by decide⟩
theorem US_chk : chkE US = 0 := by kernel_rfl
theorem shade_any (r g b : Int) (w : World) : Calls Tryd.prog 47 #[.int .u8 r, .int .u8 g, .int .u8 b] w fun e w' => e = .returned (.agg #[.int .u8 r, .int .u8 g, .int .u8 b, .int .u8 255]) ∧ Below w.heap.size w w' := by
  go_enter Tryd.func47, Tryd.ntmps47
  go_wp2
  exact bodyPost_ret (v := .agg #[.int .u8 r, .int .u8 g, .int .u8 b, .int .u8 255]) (by simp [results, Tryd.results47, go_sem]) rfl ⟨rfl, (by repeat (first | exact Below.refl _ _ | with_reducible refine Below.alloc ?_ (by first | (simp; done) | (simp; omega) | omega) _ | with_reducible refine Below.setCell ?_ (by first | (simp; done) | (simp; omega) | omega) _ | with_reducible refine Below.drew ?_ | with_reducible refine Below.trans ?_ (Below.mono (by assumption) (by first | (simp; done) | (simp; omega) | omega))))⟩
def UsPost (w : World) (e : Ending) (w' : World) : Prop := ∃ g, e = .returned (.slice (some ⟨g, 0, none⟩) 6 6) ∧ w.heap.size ≤ g ∧ w'.heap[g]? = some (.cells #[.int .u8 0, .string { data := #[] }, .int .u8 0, .int .u8 3, .int .u8 0, .int .u8 0, .int .u8 0, .int .u8 255, .int .u8 255, .int .u8 255, .int .u8 255, .int .u8 255, .bool false, .int .i64 0, .int .u8 2, .string { data := #[] }, .int .u8 0, .int .u8 12, .int .u8 0, .int .u8 0, .int .u8 0, .int .u8 0, .int .u8 0, .int .u8 0, .int .u8 0, .int .u8 0, .bool true, .int .i64 1, .int .u8 3, .string { data := #[] }, .int .u8 0, .int .u8 4, .int .u8 0, .int .u8 0, .int .u8 0, .int .u8 0, .int .u8 0, .int .u8 0, .int .u8 0, .int .u8 0, .bool true, .int .i64 0, .int .u8 0, .string { data := #[] }, .int .u8 1, .int .u8 2, .int .u8 0, .int .u8 0, .int .u8 0, .int .u8 0, .int .u8 204, .int .u8 221, .int .u8 255, .int .u8 255, .bool false, .int .i64 0, .int .u8 0, .string { data := #[] }, .int .u8 4, .int .u8 2, .int .u8 0, .int .u8 0, .int .u8 0, .int .u8 0, .int .u8 153, .int .u8 187, .int .u8 255, .int .u8 255, .bool false, .int .i64 0, .int .u8 0, .string { data := #[] }, .int .u8 8, .int .u8 1, .int .u8 136, .int .u8 136, .int .u8 136, .int .u8 255, .int .u8 0, .int .u8 0, .int .u8 0, .int .u8 0, .bool false, .int .i64 0] 46 (0, 0)) ∧ Below w.heap.size w w'
set_option maxHeartbeats 4000000 in
set_option maxRecDepth 100000 in
theorem rUsual_any (w : World) : Calls Tryd.prog 29 #[] w (UsPost w) := by
  go_enter Tryd.func29, Tryd.ntmps29
  go_wp2
  go_ret
  exact ⟨_, rfl, Nat.le_refl _, heap_alloc_new _ _, (Below.refl _ _).alloc (Nat.le_refl _) _⟩
set_option maxHeartbeats 4000000 in
set_option maxRecDepth 100000 in
theorem Usual_any (w : World) : Calls Tryd.prog 27 #[] w (UsPost w) := by
  have hb0 := Below.refl w.heap.size w
  go_enter Tryd.func27, Tryd.ntmps27
  go_wp2_with (first | (go_at_call 47; refine (shade_any _ _ _ _).mono ?_; rintro e w1 ⟨rfl, hq⟩; replace hb0 := hb0.trans (hq.mono hb0.size); clear hq))
  go_ret
  exact ⟨_, rfl, hb0.size, heap_alloc_new _ _, hb0.alloc hb0.size _⟩
end Go.Proofs.YtoiondgcjbdonaaDoor
