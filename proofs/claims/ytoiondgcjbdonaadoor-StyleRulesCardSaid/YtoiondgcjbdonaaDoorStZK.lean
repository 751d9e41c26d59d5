/- Layer 5: the law's own helper 'kept': lent rules stay, with the mark behind. -/
import Derived.Test.YtoiondgcjbdonaaDoorStZ
namespace Go.Proofs.YtoiondgcjbdonaaDoor
set_option linter.unusedVariables false
set_option linter.unusedSimpArgs false
set_option maxRecDepth 100000
open Go.RowKit Go.Shelf Go.Lib Go.Sort

set_option maxHeartbeats 2000000 in
set_option maxRecDepth 100000 in
theorem kept_any (A : Option Addr) (c g cx : Nat) (L : List Ru) (w : World) (hA : At w.heap.size w A (rus L)) (hX : At w.heap.size w (some ⟨g, 0, none⟩) (rus (L ++ [mark77]))) (hl : L.length ≤ 2000) (hcx : L.length + 1 ≤ cx) (hcm : cx ≤ maxLen) :
    Calls Tryd.prog 19 #[.slice (some ⟨g, 0, none⟩) L.length cx, .slice A L.length c] w fun e w' => e = .returned (.bool true) ∧ Below w.heap.size w w' := by
  have hX1 : At w.heap.size w (some ⟨g, 0, none⟩) (rus L) := by
    have := hX.takeR L.length
    rwa [List.take_append_of_le_length (Nat.le_refl _), List.take_length] at this
  have CS := hid (fun (x : World) (hb : Below w.heap.size w x) => same_any L (some ⟨g, 0, none⟩) A cx c x ((hX1.below hb).mono hb.size) ((hA.below hb).mono hb.size) (by omega))
  have HX := hid hX
  have HL : Hid (L.length + 1 ≤ (L ++ [mark77]).length) := hid (by simp)
  have HM : Hid ((L ++ [mark77])[L.length]'(by simp) = mark77) := hid (by simp)
  have hc1 : (L.length : Int) + 1 ≤ (cx : Int) := by omega
  have hc2 : (cx : Int) ≤ 9223372036854775807 := by unfold maxLen at hcm; omega
  have hl' : (L.length : Int) ≤ 2000 := by omega
  obtain ⟨g', o', hg0, hg, d0, d1, d2, d3, d4, d5, d6, d7, d8, d9, d10, d11, d12, d13⟩ := HX.out.ru (k := L.length) (by simp)
  obtain ⟨rfl, rfl⟩ : g = g' ∧ 0 = o' := by injection hg0 with h; injection h with h1 h2; exact ⟨h1, h2⟩
  rw [HM.out] at d0
  have D0 : w.cell? ⟨g, L.length * 14, none⟩ = some (.int .u8 77) := by rw [Nat.zero_add] at d0; exact d0
  clear hA hX hX1 hg0 d0 d1 d2 d3 d4 d5 d6 d7 d8 d9 d10 d11 d12 d13
  go_enter Tryd.func19, Tryd.ntmps19
  go_wp2_with fail
  refine (CS.out _ (Below.refl _ _)).mono ?_
  rintro e w1 ⟨rfl, hb1⟩
  have D1 := hb1.cell (p := ⟨g, L.length * 14, none⟩) hg
  rw [D0] at D1
  have hg1 : g < w1.heap.size := by have := hb1.size; omega
  go_wp2
  go_ret
  exact ⟨rfl, hb1⟩
end Go.Proofs.YtoiondgcjbdonaaDoor
