/- Layer 10: sharing out, in plain Lean: bounds, and what holds at each round. -/
import Derived.Test.YthannibclhidcaaShPlain
namespace Go.Proofs.Ythannibclhidcaa
set_option linter.unusedVariables false
set_option linter.unusedSimpArgs false
open Go.RowKit

theorem sumN_nonneg {f : Nat → Int} {P : List Nat} (h : ∀ i ∈ P, 0 ≤ f i) : 0 ≤ sumN f P := by
  induction P with
  | nil => simp [sumN]
  | cons i P ih =>
    have h1 := ih fun i hi => h i (by simp [hi])
    have h2 := h i (by simp)
    simp only [sumN]
    omega
theorem sumN_const (c : Int) (P : List Nat) : sumN (fun _ => c) P = P.length * c := by
  induction P with
  | nil => simp [sumN]
  | cons i P ih =>
    simp only [sumN, ih, List.length_cons]
    rw [Int.natCast_succ, Int.add_mul]
    omega
theorem sumN_add (f g : Nat → Int) (P : List Nat) : sumN (fun i => f i + g i) P = sumN f P + sumN g P := by
  induction P with
  | nil => simp [sumN]
  | cons i P ih => simp only [sumN, ih]; omega
theorem member_le {L : List T3} {P : List Nat} (h : ∀ t ∈ L, mayT t = true) {i : Nat} (hi : i ∈ P) : (tk L i).r ≤ gP L P := by
  unfold gP
  induction P with
  | nil => cases hi
  | cons j P ih =>
    simp only [sumN]
    have h1 : 0 ≤ sumN (fun i => (tk L i).r) P := sumN_nonneg fun i _ => (tk_bd h i).2.2.1
    have h2 := (tk_bd h j).2.2.1
    rcases List.mem_cons.1 hi with rfl | hi
    · omega
    · have := ih hi
      omega
theorem g_bd {L : List T3} {left : Int} {P : List Nat} {O : List Int} (h : ShInv L left P O) : P.length ≤ gP L P ∧ gP L P ≤ P.length * 16384 :=
  ⟨g_pos h.idx, (sumN_bd (c := 0) fun i _ => (tk_bd h.may i).2.2).2⟩
theorem part_bd {L : List T3} {left g : Int} (hl : 0 ≤ left) {i : Nat} (hr : 0 ≤ (tk L i).r) (hg : (tk L i).r ≤ g) (h0 : 0 < g) : 0 ≤ left * (tk L i).r / g ∧ left * (tk L i).r / g ≤ left := by
  have h1 : 0 ≤ left * (tk L i).r := Int.mul_nonneg hl hr
  refine ⟨Int.ediv_nonneg h1 (by omega), ?_⟩
  apply Int.le_of_mul_le_mul_left (a := g) _ h0
  have h2 := Int.mul_ediv_self_le (x := left * (tk L i).r) (k := g) (by omega)
  have h3 : left * (tk L i).r ≤ left * g := Int.mul_le_mul_of_nonneg_left hg hl
  rw [Int.mul_comm left g] at h3
  omega
theorem used_bd {L : List T3} {left : Int} {P : List Nat} {O : List Int} (h : ShInv L left P O) : 0 ≤ usedP L left (gP L P) P ∧ usedP L left (gP L P) P ≤ left := by
  constructor
  · refine sumN_nonneg fun i _ => ?_
    try dsimp only
    split
    · rename_i hf
      have := tk_bd h.may i
      simp [fullP] at hf
      omega
    · omega
  · by_cases hP : P = []
    · subst hP
      simpa [usedP, sumN] using h.left.1
    · have hpos : 0 < P.length := List.length_pos_iff.2 hP
      have hg := g_bd h
      apply Int.le_of_mul_le_mul_left (a := gP L P) _ (by omega)
      have key : gP L P * usedP L left (gP L P) P = sumN (fun i => gP L P * (if fullP L left (gP L P) i then (tk L i).q - (tk L i).p else 0)) P := (sumN_mul _ _ _).symm
      have rhs : sumN (fun i => left * (tk L i).r) P = left * gP L P := sumN_mul _ _ _
      have h1 : sumN (fun i => gP L P * (if fullP L left (gP L P) i then (tk L i).q - (tk L i).p else 0)) P ≤ sumN (fun i => left * (tk L i).r) P := sumN_le fun i _ => by
        try dsimp only
        split
        · rename_i hf
          simp [fullP] at hf
          exact hf.2
        · have := (tk_bd h.may i).2.2.1
          have := Int.mul_nonneg h.left.1 this
          omega
      rw [Int.mul_comm left] at rhs
      omega
theorem spent_bd {L : List T3} {left : Int} {P : List Nat} {O : List Int} (h : ShInv L left P O) (hP : P ≠ []) : 0 ≤ left - spentP L left (gP L P) P ∧ left - spentP L left (gP L P) P < P.length := by
  have hpos : 0 < P.length := List.length_pos_iff.2 hP
  have hg := g_bd h
  have h0 : 0 < gP L P := by omega
  have key : gP L P * spentP L left (gP L P) P = sumN (fun i => gP L P * (left * (tk L i).r / gP L P)) P := by rw [sumN_mul]; rfl
  have rhs : sumN (fun i => left * (tk L i).r) P = left * gP L P := sumN_mul _ _ _
  rw [Int.mul_comm left] at rhs
  have h1 : sumN (fun i => gP L P * (left * (tk L i).r / gP L P)) P ≤ sumN (fun i => left * (tk L i).r) P := sumN_le fun i _ => Int.mul_ediv_self_le (by omega)
  have h2 : sumN (fun i => left * (tk L i).r) P ≤ sumN (fun i => gP L P * (left * (tk L i).r / gP L P) + (gP L P - 1)) P := sumN_le fun i _ => by
    try dsimp only
    have := Int.mul_ediv_add_emod (left * (tk L i).r) (gP L P)
    have := Int.emod_lt_of_pos (left * (tk L i).r) h0
    omega
  have e2 : sumN (fun i => gP L P * (left * (tk L i).r / gP L P) + (gP L P - 1)) P = sumN (fun i => gP L P * (left * (tk L i).r / gP L P)) P + P.length * (gP L P - 1) := by
    rw [sumN_add, sumN_const]
  constructor
  · have : gP L P * spentP L left (gP L P) P ≤ gP L P * left := by omega
    have := Int.le_of_mul_le_mul_left this h0
    omega
  · have h3 : gP L P * left ≤ gP L P * spentP L left (gP L P) P + P.length * (gP L P - 1) := by omega
    have h4 : (P.length : Int) * (gP L P - 1) < gP L P * P.length := by
      rw [Int.mul_sub, Int.mul_one, Int.mul_comm]
      omega
    have h5 : gP L P * left < gP L P * (spentP L left (gP L P) P + P.length) := by
      rw [Int.mul_add]
      omega
    have := Int.lt_of_mul_lt_mul_left h5 (by omega)
    omega
theorem set_mem {O : List Int} {i : Nat} {v : Int} {Q : Int → Prop} (h : ∀ o ∈ O, Q o) (hv : Q v) : ∀ o ∈ O.set i v, Q o := by
  intro o ho
  rcases List.mem_or_eq_of_mem_set ho with h1 | h1
  · exact h o h1
  · rw [h1]
    exact hv
theorem fill_out {L : List T3} {left g : Int} (hm : ∀ t ∈ L, mayT t = true) (P : List Nat) : ∀ O : List Int, (∀ o ∈ O, 0 ≤ o ∧ o ≤ 16384) → ∀ o ∈ P.foldl (fillO L left g) O, 0 ≤ o ∧ o ≤ 16384 := by
  induction P with
  | nil => exact fun _ h => h
  | cons i P ih =>
    intro O h
    refine ih _ ?_
    unfold fillO
    split
    · have := tk_bd hm i
      exact set_mem h (by omega)
    · exact h
theorem ShInv.step {L : List T3} {left : Int} {P : List Nat} {O : List Int} (h : ShInv L left P O) : ShInv L (left - usedP L left (gP L P) P) (restP L left (gP L P) P) (P.foldl (fillO L left (gP L P)) O) := by
  have hu := used_bd h
  refine ⟨h.may, ?_, fun i hi => h.idx i (List.mem_filter.1 hi).1, h.nodup.filter _, ?_, fill_out h.may P O h.out⟩
  · have := h.left
    omega
  · rw [fold_len _ (fill_len L left _), h.len]
theorem getD_mem {O : List Int} {Q : Int → Prop} (h : ∀ o ∈ O, Q o) (h0 : Q 0) (i : Nat) : Q (O.getD i 0) := by
  by_cases hi : i < O.length
  · simpa [List.getD, hi] using h _ (List.getElem_mem hi)
  · simpa [List.getD, hi] using h0
theorem grow_out {L : List T3} {left g : Int} (P : List Nat) (hp : ∀ i ∈ P, 0 ≤ left * (tk L i).r / g ∧ left * (tk L i).r / g ≤ 32768) : ∀ (O : List Int) (c : Int), 0 ≤ c → (∀ o ∈ O, 0 ≤ o ∧ o ≤ c) → ∀ o ∈ P.foldl (growO L left g) O, 0 ≤ o ∧ o ≤ c + P.length * 32768 := by
  induction P with
  | nil =>
    intro O c _ h
    simpa using h
  | cons i P ih =>
    intro O c hc h o ho
    have h1 := hp i (by simp)
    have h2 := getD_mem (Q := fun o => 0 ≤ o ∧ o ≤ c) h ⟨by omega, hc⟩ i
    have := ih (fun j hj => hp j (by simp [hj])) (growO L left g O i) (c + 32768) (by omega) (set_mem (fun o ho => by have := h o ho; omega) (by omega)) o ho
    simp only [List.length_cons]
    omega
theorem bump_out (P : List Nat) : ∀ (O : List Int) (c : Int), 0 ≤ c → (∀ o ∈ O, 0 ≤ o ∧ o ≤ c) → ∀ o ∈ P.foldl bumpO O, 0 ≤ o ∧ o ≤ c + P.length := by
  induction P with
  | nil =>
    intro O c _ h
    simpa using h
  | cons i P ih =>
    intro O c hc h o ho
    have h2 := getD_mem (Q := fun o => 0 ≤ o ∧ o ≤ c) h ⟨by omega, hc⟩ i
    have := ih (bumpO O i) (c + 1) (by omega) (set_mem (fun o ho => by have := h o ho; omega) (by omega)) o ho
    simp only [List.length_cons]
    omega
theorem rest_same {L : List T3} {left g : Int} {P : List Nat} (h : (restP L left g P).length = P.length) : restP L left g P = P ∧ ∀ i ∈ P, fullP L left g i = false := by
  have h1 : ∀ i ∈ P, (!fullP L left g i) = true := List.length_filter_eq_length_iff.1 h
  refine ⟨List.filter_eq_self.2 h1, fun i hi => by simpa using h1 i hi⟩
theorem fill_same {L : List T3} {left g : Int} {P : List Nat} (h : ∀ i ∈ P, fullP L left g i = false) : ∀ O, P.foldl (fillO L left g) O = O := by
  induction P with
  | nil => exact fun _ => rfl
  | cons i P ih =>
    intro O
    simp only [List.foldl_cons]
    rw [show fillO L left g O i = O by simp [fillO, h i (by simp)]]
    exact ih (fun j hj => h j (by simp [hj])) O
theorem ShInv.start {L : List T3} {room : Int} (hm : ∀ t ∈ L, mayT t = true) (hr : 0 ≤ room ∧ room ≤ 32768) (h : ¬ room - sumP L ≤ 0) : ShInv L (room - sumP L) (startP L) (L.map (·.p)) := by
  have hs := sumP_bd hm
  refine ⟨hm, by omega, fun i hi => ?_, ?_, by simp, fun o ho => ?_⟩
  · obtain ⟨h1, h2⟩ := List.mem_filter.1 hi
    exact ⟨List.mem_range.1 h1, by simpa using h2⟩
  · exact List.nodup_range.filter _
  · obtain ⟨t, ht, rfl⟩ := List.mem_map.1 ho
    have := (mayT_iff t).1 (hm t ht)
    omega
end Go.Proofs.Ythannibclhidcaa
