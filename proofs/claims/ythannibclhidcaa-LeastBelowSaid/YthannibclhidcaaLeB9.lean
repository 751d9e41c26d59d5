/- Layer 9: what LeastBelow asks, in plain Lean. -/
import Derived.Test.YthannibclhidcaaLeSays
namespace Go.Proofs.Ythannibclhidcaa
set_option linter.unusedVariables false
set_option linter.unusedSimpArgs false
open Go.RowKit

def FineB (X : List Int) (L : List T3) : Prop := (keepsE X L = 0 ∧ keepsK X L = -1) ∧ ∀ j, j < X.length → 0 ≤ X.getD j 0
def UnderB (X : List Int) (L : List T3) (most : Int) : Prop := FineB X L ∧ ∀ j, j < X.length → X.getD j 0 ≤ most
theorem FineB.sol {X : List Int} {L : List T3} (h : FineB X L) : sols X.length L (fun v => X.getD v 0) ∧ solveE X.length L = 0 := by
  obtain ⟨h1, h2⟩ := keeps_fine h.1.1 h.1.2
  exact ⟨h2, solve_sol h1 h2⟩
structure Least9 (X : List Int) (L : List T3) (most : Int) : Prop where
  no : solveE X.length L ≠ 0 → solveR X.length L = [] ∧ topE X.length L most ≠ 0 ∧ ¬ FineB X L
  len : solveE X.length L = 0 → (solveR X.length L).length = X.length
  vals : solveE X.length L = 0 → ∀ v, v < X.length → 0 ≤ (solveR X.length L).getD v 0 ∧ (0 < (solveR X.length L).getD v 0 → ∃ a, a < (tightR X.length L).length ∧ qn L ((tightR X.length L).getD a 0).toNat = v) ∧ (FineB X L → (solveR X.length L).getD v 0 ≤ X.getD v 0)
  keeps : solveE X.length L = 0 → keepsE (solveR X.length L) L = 0 ∧ keepsK (solveR X.length L) L = -1
  tight : ∀ a, a < (tightR X.length L).length → ∃ j : Nat, (tightR X.length L).getD a 0 = (j : Int) ∧ j < L.length
  inc : ∀ a, a + 1 < (tightR X.length L).length → (tightR X.length L).getD a 0 < (tightR X.length L).getD (a + 1) 0
  okl : solveE X.length L = 0 → okL X.length L
  topno : solveE X.length L = 0 → topE X.length L most ≠ 0 → topR X.length L most = [] ∧ (topE X.length L most = 90 → ¬ UnderB X L most)
  top : solveE X.length L = 0 → topE X.length L most = 0 → (topR X.length L most).length = X.length ∧ (keepsE (topR X.length L most) L = 0 ∧ keepsK (topR X.length L most) L = -1) ∧ ∀ v, v < X.length → (topR X.length L most).getD v 0 ≤ most ∧ (solveR X.length L).getD v 0 ≤ (topR X.length L most).getD v 0 ∧ (UnderB X L most → X.getD v 0 ≤ (topR X.length L most).getD v 0)
theorem least9 (X : List Int) (L : List T3) (most : Int) (hn : X.length ≤ 200) (hl : L.length ≤ 400) : Least9 X L most := by
  have hB : solveE X.length L = 0 → okL X.length L ∧ Below9 X.length L (solveR X.length L) := fun h => by
    obtain ⟨m, hm, _, _, h1, h2⟩ := solve_below h
    have e : m = X.length := by omega
    subst e
    exact ⟨h1, h2⟩
  refine ⟨fun h => ⟨solveR_nil h, topE_ne h, fun hf => h hf.sol.2⟩, fun h => (hB h).2.len, fun h v hv => ?_, fun h => ?_, ?_, ?_, fun h => (hB h).1, fun h hg => ⟨topR_nil hg, fun h90 hu => ?_⟩, fun h hg => ?_⟩
  · obtain ⟨hL, h9⟩ := hB h
    refine ⟨h9.ge v hv, fun hp => ?_, fun hf => h9.le _ hf.sol.1 hf.2 v hv⟩
    obtain ⟨j, hj, e, ht⟩ := h9.held v hv hp
    have hT : tightR X.length L = tightL (solveR X.length L) L L.length := by unfold tightR; rw [if_pos h]
    have hmem := tight_mem L.length hj ht
    rw [← hT] at hmem
    obtain ⟨a, ha, e2⟩ := getD_mem9 hmem
    exact ⟨a, ha, by rw [e2]; exact e⟩
  · obtain ⟨hL, h9⟩ := hB h
    have hlen := h9.len
    refine keeps_of (by rw [hlen]; exact (solveE_ok h).1) (solve_bd h hn hl) (by rw [hlen]; exact h9.sol)
  · intro a ha
    unfold tightR at ha ⊢
    split at ha
    · rename_i h
      rw [if_pos h]
      have := tight_in (x := solveR X.length L) (L := L) L.length _ (mem_getD9 ha)
      exact ⟨((tightL (solveR X.length L) L L.length).getD a 0).toNat, by omega, by omega⟩
    · simp at ha
  · intro a ha
    unfold tightR at ha ⊢
    split at ha
    · rename_i h
      rw [if_pos h]
      exact tight_inc L.length a ha
    · simp at ha
  · exact top_no h90 h hu.1.sol.1 fun v hv => ⟨hu.1.2 v hv, hu.2 v hv⟩
  · obtain ⟨m, hm, hc, _, hmb, h9⟩ := top_is hg
    have e : m = X.length := by omega
    subst e
    have hlen := h9.len
    refine ⟨hlen, keeps_of (by rw [hlen]; exact hc) (fun v hv => ?_) (by rw [hlen]; exact h9.sol), fun v hv => ⟨h9.le v hv, (hB h).2.le _ h9.sol h9.ge v hv, fun hu => h9.up _ hu.1.sol.1 hu.2 v hv⟩⟩
    obtain ⟨i, hi, rfl⟩ := getD_mem9 hv
    rw [hlen] at hi
    have := h9.ge i hi
    have := h9.le i hi
    omega
end Go.Proofs.Ythannibclhidcaa
