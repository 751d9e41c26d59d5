/- Layer 25: what shows (plain), and the walk of EditShows. -/
import Derived.Test.YtcfgpmmclijonaaDoorEdSh
namespace Go.Proofs.YtcfgpmmclijonaaDoor
set_option linter.unusedVariables false
set_option linter.unusedSimpArgs false
set_option maxRecDepth 100000
open Go.RowKit Go.Shelf Go.Lib
set_option maxRecDepth 100000
set_option maxHeartbeats 16000000

/-- What Show answers: a piece of the caret's line, with the caret in it, not wider than told. -/
theorem show_facts (b : ByteArray) {x n : Nat} (hx : Seam b.data.toList x) (h1 : 1 ≤ n) : ∃ a z : Nat, showA b x n = a ∧ showZ b x n = z ∧ a ≤ x ∧ x ≤ z ∧ z ≤ b.size ∧ showC b x n < n ∧ total (pcs (b.extract a z).data.toList) ≤ n ∧
    total (pcs ((b.extract a z).extract 0 (x - a)).data.toList) = showC b x n ∧ (∀ i (hi : i < (b.extract a z).size), ¬ ((((b.extract a z)[i]).toNat : Int) = 10)) := by
  have hl := ba_len b
  have hxl := hx.le
  rw [hl] at hxl
  have eA := lnA_eq hxl
  have eB := lnB_eq hxl
  have bA := eA.2.1
  have bB1 := eB.2.1
  obtain ⟨i1, hi1, hx1⟩ := hx
  obtain ⟨iA, hiA, hA1⟩ := eA.2.seam
  obtain ⟨kb, hkb, hkb2⟩ := eB.2.seam
  have p1 : pix (pcs b.data.toList) x = i1 := by rw [hx1]; exact pix_off _ hi1
  have p2 : pix (pcs b.data.toList) (lnA b x) = iA := by rw [hA1]; exact pix_off _ hiA
  have hcmp : ∀ i j, j ≤ (pcs b.data.toList).length → i ≤ (pcs b.data.toList).length → off (pcs b.data.toList) i ≤ off (pcs b.data.toList) j → i ≤ j := fun i j hj hi h => by
    false_or_by_contra
    have h4 := off_strict (pcs_pos b.data.toList) (show j < (pcs b.data.toList).length by omega)
    have h5 := off_mono (pcs b.data.toList) (show j + 1 ≤ i by omega)
    omega
  have hmo : iA ≤ i1 := hcmp _ _ hi1 hiA (by omega)
  have hmo2 : i1 ≤ kb := hcmp _ _ hkb hi1 (by omega)
  have hsp := shwF_spec (pcs b.data.toList) i1 n h1 hi1 (pcs b.data.toList).length iA hmo (by omega)
  obtain ⟨R, hR⟩ : ∃ R, shwF (pcs b.data.toList) i1 n (pcs b.data.toList).length iA = R := ⟨_, rfl⟩
  have hI : showI b x n = R := by unfold showI; rw [p1, p2, hR]
  rw [hR] at hsp
  have hun := undF_spec (l := b.data.toList) (i0 := R) (n := n) hkb (pcs b.data.toList).length R 0 rfl (by omega) (by omega) (by omega)
  obtain ⟨U, hU⟩ : ∃ U, undF (pcs b.data.toList) (off (pcs b.data.toList) kb) (n : Int) (pcs b.data.toList).length R 0 = U := ⟨_, rfl⟩
  rw [hU] at hun
  have hZ : showZ b x n = off (pcs b.data.toList) U := by
    unfold showZ undE showA
    rw [hI, pix_off _ (Nat.le_trans hsp.2.1 hi1), hkb2, hU]
  have hAa : showA b x n = off (pcs b.data.toList) R := by unfold showA; rw [hI]
  have hC : showC b x n = toC (pcs b.data.toList) i1 - toC (pcs b.data.toList) R := by unfold showC; rw [p1, hI]
  have hiU : i1 ≤ U := by
    false_or_by_contra
    rcases hun.2.2.2 with h | h
    · omega
    · have := toC_mono_ (pcs b.data.toList) (show U + 1 ≤ i1 by omega) hi1
      omega
  have c1 := off_mono (pcs b.data.toList) hsp.2.1
  have c2 := off_mono (pcs b.data.toList) hiU
  have c3 := off_end b.data.toList U
  rw [hl] at c3
  have c4 := cells_sub b (show R ≤ U by omega) (by omega)
  have c5 := cells_sub b hsp.2.1 hi1
  refine ⟨_, _, hAa, hZ, by omega, by omega, c3, by rw [hC]; exact hsp.2.2, by rw [c4.1]; omega, ?_, ?_⟩
  · have e : (b.extract (off (pcs b.data.toList) R) (off (pcs b.data.toList) U)).extract 0 (x - off (pcs b.data.toList) R) = b.extract (off (pcs b.data.toList) R) x := by
      rw [ByteArray.extract_extract]
      congr 1 <;> omega
    rw [e, hC, hx1]
    exact c5.1
  · intro i hi h10
    have hsz : (b.extract (off (pcs b.data.toList) R) (off (pcs b.data.toList) U)).size = off (pcs b.data.toList) U - off (pcs b.data.toList) R := by rw [ByteArray.size_extract]; omega
    have hb10 : b.data.toList[off (pcs b.data.toList) R + i]? = some 10 := by
      have hlt : off (pcs b.data.toList) R + i < b.size := by omega
      rw [List.getElem?_eq_getElem (by omega)]
      congr 1
      have e2 : (b.extract (off (pcs b.data.toList) R) (off (pcs b.data.toList) U))[i] = b[off (pcs b.data.toList) R + i] := ByteArray.getElem_extract ..
      rw [e2] at h10
      have h3 : b[off (pcs b.data.toList) R + i] = 10 := UInt8.toNat_inj.1 (by show _ = 10; omega)
      exact h3
    have o1 := off_mono (pcs b.data.toList) hsp.1
    have o2 := off_mono (pcs b.data.toList) hun.2.1
    by_cases hlt : off (pcs b.data.toList) R + i < x
    · exact eA.2.2.2 _ (by omega) hlt hb10
    · exact eB.2.2.2.2 _ (by omega) (by omega) hb10
end Go.Proofs.YtcfgpmmclijonaaDoor
