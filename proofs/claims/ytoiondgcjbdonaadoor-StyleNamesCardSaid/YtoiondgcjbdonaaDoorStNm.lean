/- Layer 5: StyleNames: the plain facts. -/
import Derived.Test.YtoiondgcjbdonaaDoorStUs
namespace Go.Proofs.YtoiondgcjbdonaaDoor
set_option linter.unusedVariables false
set_option linter.unusedSimpArgs false
set_option maxRecDepth 100000
open Go.RowKit Go.Shelf Go.Lib Go.Sort

/-- Rules that say nothing. -/
def zRu : Ru := ⟨0, { data := #[] }, 0, Lk.none⟩
def zeros (n : Nat) : List Ru := List.replicate n zRu
theorem zeros_len (n : Nat) : (zeros n).length = n := by simp [zeros]
theorem zeros_in (n : Nat) : ∀ r ∈ zeros n, r.In := by
  intro r hr
  obtain rfl : r = zRu := (List.mem_replicate.1 hr).2
  exact ⟨by decide, by decide, ⟨by decide, by unfold Cl.In; decide, by unfold Cl.In; decide⟩, by decide⟩
theorem zeros_key (n : Nat) (i : Nat) : keyAt (zeros n) i = 0 := by
  unfold keyAt zeros
  rw [List.getElem?_replicate]
  split
  · show keyR zRu = 0
    kernel_rfl
  · rfl
theorem zeros_ord (n : Nat) : ordN (zeros n) = List.range n := by
  unfold ordN ordL
  rw [zeros_len]
  apply List.mergeSort_of_pairwise
  rw [List.pairwise_iff_getElem]
  intro i j hi hj hij
  rw [List.getElem_range, List.getElem_range]
  unfold ordLe
  rw [zeros_key, zeros_key]
  simp
  omega
theorem zeros_chk : chkE (zeros 256) = 0 := by kernel_rfl
theorem zeros_chk' : chkE (zeros 257) = 4 := by kernel_rfl
theorem zeros_last : (ordI (zeros 256))[255]? = some 255 := by
  unfold ordI
  rw [zeros_ord]
  kernel_rfl

/-- Classes at their ends. -/
def clsA (n : Nat) : ByteArray := { data := Array.replicate n 97 }
def rAt : Ru := { zRu with cls := clsA 64 }
def rBeyond : Ru := { zRu with cls := clsA 65 }
def rPad (p : Int) : Ru := { zRu with look := ⟨8, Cl.zero, Cl.zero, false, p⟩ }
def rOdd : Ru := { zRu with cls := { data := #[255] } }
theorem at_chk : chkE [rAt] = 0 := by kernel_rfl
theorem beyond_chk : chkE [rBeyond] = 50 := by kernel_rfl
theorem wide_chk : chkE [rPad 16384] = 0 := by kernel_rfl
theorem wider_chk : chkE [rPad 16385] = 50 := by kernel_rfl
theorem odd_chk : chkE [rOdd] = 50 := by kernel_rfl
def strongR : List Ru := [rPad 5, ⟨0, { data := #[] }, 1, ⟨7, ⟨255, 0, 0, 255⟩, ⟨255, 0, 0, 255⟩, false, 0⟩⟩]
theorem strong_chk : chkE strongR = 0 := by kernel_rfl
theorem strong_ord : ordN strongR = [0, 1] := ord_by_rank strongR [0, 1] rfl (by kernel_rfl)
theorem strong_look : foldO (fR strongR) (hR strongR 1 [] 1) (ordN strongR) Lk.none = ⟨15, ⟨255, 0, 0, 255⟩, ⟨255, 0, 0, 255⟩, false, 5⟩ := by rw [strong_ord]; kernel_rfl
def wrongR : List Ru := [{ zRu with cls := { data := #[97, 32, 98] } }, { zRu with cls := { data := #[32] } }, { zRu with look := ⟨1, Cl.zero, Cl.zero, false, 1⟩ }, { zRu with look := ⟨8, Cl.zero, ⟨255, 0, 0, 255⟩, false, 0⟩ }, { zRu with look := ⟨8, Cl.zero, Cl.zero, true, 0⟩ }, { zRu with look := ⟨14, ⟨255, 0, 0, 255⟩, Cl.zero, false, 0⟩ }]
theorem wrong_chk : ∀ r ∈ wrongR, chkE [r] = 50 := by
  intro r hr
  simp only [wrongR, List.mem_cons, List.mem_nil_iff, or_false] at hr
  rcases hr with rfl | rfl | rfl | rfl | rfl | rfl
  all_goals kernel_rfl
end Go.Proofs.YtoiondgcjbdonaaDoor
