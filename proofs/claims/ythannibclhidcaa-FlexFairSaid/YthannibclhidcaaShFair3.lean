/- Layer 10: the sum against the most that can be. -/
import Derived.Test.YthannibclhidcaaShFair2
namespace Go.Proofs.Ythannibclhidcaa
set_option linter.unusedVariables false
set_option linter.unusedSimpArgs false
open Go.RowKit

theorem tk_mem {L : List T3} {i : Nat} (h : i < L.length) : tk L i ∈ L := by
  rw [tk_at h]
  exact List.getElem_mem _
theorem most_cases {L : List T3} (hm : ∀ t ∈ L, mayT t = true) : mostG L 0 = -1 ∧ (∃ t ∈ L, t.r ≠ 0 ∧ t.q = 0) ∨ mostG L 0 = topS L ∧ sumP L ≤ topS L ∧ ∀ t ∈ L, t.r = 0 ∨ t.q ≠ 0 := by
  by_cases h : ∀ t ∈ L, t.r = 0 ∨ t.q ≠ 0
  · right
    refine ⟨by rw [most_top h]; omega, ?_, h⟩
    induction L with
    | nil => simp [sumP, topS]
    | cons t L ih =>
      have h1 := ih (fun t ht => hm t (by simp [ht])) (fun t ht => h t (by simp [ht]))
      have h2 := (mayT_iff t).1 (hm t (by simp))
      have h3 := h t (by simp)
      simp only [sumP, topS, topT]
      split <;> omega
  · left
    have h' : ∃ t ∈ L, t.r ≠ 0 ∧ t.q = 0 := by
      apply Classical.byContradiction
      intro hn
      refine h fun t ht => ?_
      by_cases e : t.r = 0
      · exact .inl e
      · exact .inr fun e2 => hn ⟨t, ht, e, e2⟩
    exact ⟨most_no h' 0, h'⟩
theorem sum_ge_min {L : List T3} : ∀ {A : List Int}, A.length = L.length → (∀ i, i < L.length → (tk L i).p ≤ A.getD i 0) → sumP L ≤ sumI A := by
  induction L with
  | nil =>
    intro A hl _
    have : A = [] := List.eq_nil_of_length_eq_zero (by simpa using hl)
    subst this
    simp [sumI, sumP]
  | cons t L ih =>
    intro A hl h
    match A, hl with
    | x :: A, hl =>
      have h0 := h 0 (by simp)
      have h1 := ih (A := A) (by simpa using hl) fun i hi => by
        have := h (i + 1) (by simpa using hi)
        simpa [tk] using this
      simp [tk] at h0
      simp only [sumI, sumP]
      omega
/-- What the statement asks of the sum. -/
theorem fair_sum {L : List T3} {room : Int} {A : List Int} (hm : ∀ t ∈ L, mayT t = true) (h : Fair L room A) : sumI A = if 0 ≤ mostG L 0 then min (max (sumP L) room) (mostG L 0) else max (sumP L) room := by
  have hmin := sum_ge_min h.len h.low
  have hsp := sumP_bd hm
  rcases most_cases hm with ⟨h1, t, ht, hr, hq⟩ | ⟨h1, h2, h3⟩
  · rw [if_neg (by omega)]
    rcases h.sum with hs | ⟨_, hs, _⟩ | ⟨hs, hs'⟩
    · omega
    · obtain ⟨i, hi, e⟩ := List.mem_iff_getElem.1 ht
      rw [← tk_at hi] at e
      subst e
      exact (hs i hi hr hq).elim
    · omega
  · rw [if_pos (by omega), h1]
    have hle : sumI A ≤ topS L := by
      refine sum_le_top h.len fun i hi => ?_
      unfold topT
      split
      · rename_i e
        rw [h.zero i hi e]
        exact Int.le_refl _
      · rename_i e
        rcases h3 _ (tk_mem hi) with e2 | e2
        · exact (e e2).elim
        · exact h.top i hi e2
    rcases h.sum with hs | ⟨hs, _, hs'⟩ | ⟨hs, hs'⟩
    · omega
    · have := sum_ge_top h.len fun i hi => by rw [hs i hi]; exact Int.le_refl _
      omega
    · omega
end Go.Proofs.Ythannibclhidcaa
