/- Layer 25: plain: seams of a text, the place where a caret settles. -/
import Derived.Test.YtcfgpmmclijonaaGreatDoorRuGo
namespace Go.Proofs.YtcfgpmmclijonaaGreatDoor
set_option linter.unusedVariables false
set_option linter.unusedSimpArgs false
set_option maxRecDepth 100000
open Go.Lib
set_option maxRecDepth 100000

/-- The piece in which a byte lies. -/
theorem hix_spec (l : By) {a : Int} (h0 : 0 ≤ a) (h1 : a < (l.length : Int)) : ∃ i, i < (pcs l).length ∧ hix (pcs l) a = some i ∧ (off (pcs l) i : Int) ≤ a ∧ a < (off (pcs l) (i + 1) : Int) := by
  have hs := pcs_sum l
  obtain ⟨i, hi, hp⟩ := hix_in (P := pcs l) h0 (by unfold sumw; omega)
  have hb := hp
  unfold InP at hb
  rw [Bool.and_eq_true] at hb
  exact ⟨i, hi, hix_some hi hp, of_decide_eq_true hb.1, of_decide_eq_true hb.2⟩
theorem hix_at {P : List (Nat × Nat)} {a : Int} {i : Nat} (hi : i < P.length) (h0 : (off P i : Int) ≤ a) (h1 : a < (off P (i + 1) : Int)) : hix P a = some i := by
  refine hix_some hi ?_
  unfold InP
  rw [decide_eq_true h0, decide_eq_true h1]
  rfl
theorem off_end (l : By) (k : Nat) : off (pcs l) k ≤ l.length := by
  have := off_le_sum (pcs l) k
  have hs := pcs_sum l
  unfold sumw at this
  omega
/-- The least seam that is not below a place. -/
def settledE (l : By) (a : Nat) : Nat := match hix (pcs l) ((a : Int) - 1) with | some i => off (pcs l) (i + 1) | none => a
theorem settled_zero (l : By) : settledE l 0 = 0 := by
  unfold settledE
  rw [hix_low (by omega)]
theorem settled_at {l : By} {a : Nat} (h0 : 0 < a) (h1 : a ≤ l.length) : ∃ i, i < (pcs l).length ∧ hix (pcs l) ((a : Int) - 1) = some i ∧ settledE l a = off (pcs l) (i + 1) ∧ off (pcs l) i < a ∧ a ≤ off (pcs l) (i + 1) := by
  obtain ⟨i, hi, hh, g0, g1⟩ := hix_spec l (a := (a : Int) - 1) (by omega) (by omega)
  refine ⟨i, hi, hh, ?_, by omega, by omega⟩
  unfold settledE
  rw [hh]
theorem settled_ge {l : By} {a : Nat} (h1 : a ≤ l.length) : a ≤ settledE l a := by
  by_cases h0 : a = 0
  · subst h0
    exact Nat.zero_le _
  · obtain ⟨i, _, _, e, _, h⟩ := settled_at (by omega) h1
    rw [e]
    exact h
theorem settled_le {l : By} {a : Nat} (h1 : a ≤ l.length) : settledE l a ≤ l.length := by
  by_cases h0 : a = 0
  · subst h0
    rw [settled_zero]
    exact Nat.zero_le _
  · obtain ⟨i, _, _, e, _, _⟩ := settled_at (by omega) h1
    rw [e]
    exact off_end l _
theorem settled_twice {l : By} {a : Nat} (h1 : a ≤ l.length) : settledE l (settledE l a) = settledE l a := by
  by_cases h0 : a = 0
  · subst h0
    rw [settled_zero, settled_zero]
  · obtain ⟨i, hi, _, e, _, _⟩ := settled_at (by omega) h1
    have hs := off_strict (pcs_pos l) hi
    rw [e]
    unfold settledE
    rw [hix_at hi (by omega) (by omega)]
/-- Is a place a seam? -/
def seamE (l : By) (a : Int) : Bool := decide (a = 0) || decide (a = (l.length : Int)) || (decide (0 < a) && decide (a < (l.length : Int)) && decide ((settledE l a.toNat : Int) = a))
theorem seam_settled {l : By} {a : Nat} (h1 : a ≤ l.length) : seamE l (settledE l a : Int) = true := by
  have h2 := settled_le h1
  have h3 := settled_twice h1
  generalize settledE l a = b at *
  unfold seamE
  by_cases h0 : b = 0
  · rw [decide_eq_true (by omega : (b : Int) = 0)]
    rfl
  · by_cases he : b = l.length
    · rw [decide_eq_true (by omega : (b : Int) = (l.length : Int)), Bool.or_true]
      rfl
    · rw [decide_eq_true (by omega : (0 : Int) < (b : Int)), decide_eq_true (by omega : (b : Int) < (l.length : Int)), show ((b : Int)).toNat = b by omega, h3, decide_eq_true rfl]
      simp
theorem back_next {l : By} {a : Nat} (h0 : 0 < a) (h1 : a ≤ l.length) : ∃ k, backE (pcs l) (a : Int) = (k, true) ∧ k < a ∧ nextE (pcs l) (k : Int) = (settledE l a, true) := by
  obtain ⟨i, hi, hh, e, g0, g1⟩ := settled_at h0 h1
  have hs := off_strict (pcs_pos l) hi
  refine ⟨off (pcs l) i, ?_, g0, ?_⟩
  · unfold backE
    rw [hh]
  · unfold nextE
    rw [hix_at hi (by omega) (by omega), e]
theorem back_zero (l : By) : backE (pcs l) 0 = (0, false) := by
  unfold backE
  rw [hix_low (by omega)]
end Go.Proofs.YtcfgpmmclijonaaGreatDoor
