/- Layer 10: what sharing gives, in plain Lean: the sum, the bounds, fairness. -/
import Derived.Test.YthannibclhidcaaFlexE
namespace Go.Proofs.Ythannibclhidcaa
set_option linter.unusedVariables false
set_option linter.unusedSimpArgs false
open Go.RowKit

def sumI : List Int → Int
  | [] => 0
  | x :: l => x + sumI l
theorem sumI_append (l m : List Int) : sumI (l ++ m) = sumI l + sumI m := by
  induction l with
  | nil => simp [sumI]
  | cons x l ih => simp only [List.cons_append, sumI, ih]; omega
theorem sumI_set (O : List Int) (i : Nat) (v : Int) (h : i < O.length) : sumI (O.set i v) = sumI O - O.getD i 0 + v := by
  induction O generalizing i with
  | nil => simp at h
  | cons x O ih =>
    cases i with
    | zero => simp [sumI]; omega
    | succ i =>
      have := ih i (by simpa using h)
      simp only [List.set_cons_succ, sumI, List.getD_cons_succ, this]
      omega
def addP (d : Nat → Int) (O : List Int) (i : Nat) : List Int := O.set i (O.getD i 0 + d i)
theorem addP_len (d : Nat → Int) (O : List Int) (i : Nat) : (addP d O i).length = O.length := by simp [addP]
theorem getD_set (O : List Int) (i j : Nat) (v : Int) (h : i < O.length) : (O.set i v).getD j 0 = if j = i then v else O.getD j 0 := by
  by_cases e : j = i
  · subst e
    simp [List.getD, h]
  · have : ¬ i = j := fun h => e h.symm
    simp [List.getD, List.getElem?_set, e, this]
theorem add_sum (d : Nat → Int) (P : List Nat) : ∀ O : List Int, (∀ i ∈ P, i < O.length) → sumI (P.foldl (addP d) O) = sumI O + sumN d P := by
  induction P with
  | nil => intro O _; simp [sumN]
  | cons i P ih =>
    intro O h
    simp only [List.foldl_cons]
    rw [ih _ fun j hj => by rw [addP_len]; exact h j (by simp [hj])]
    unfold addP
    rw [sumI_set _ _ _ (h i (by simp))]
    simp only [sumN]
    omega
theorem add_get (d : Nat → Int) (P : List Nat) : ∀ O : List Int, P.Nodup → (∀ i ∈ P, i < O.length) → ∀ j, (P.foldl (addP d) O).getD j 0 = O.getD j 0 + if j ∈ P then d j else 0 := by
  induction P with
  | nil => intro O _ _ j; simp
  | cons i P ih =>
    intro O hn h j
    obtain ⟨h1, h2⟩ := List.nodup_cons.1 hn
    simp only [List.foldl_cons]
    rw [ih _ h2 (fun j hj => by rw [addP_len]; exact h j (by simp [hj]))]
    unfold addP
    rw [getD_set _ _ _ _ (h i (by simp))]
    by_cases e : j = i
    · subst e
      simp [h1]
    · simp [e]
def fullD (L : List T3) (left g : Int) (i : Nat) : Int := if fullP L left g i then (tk L i).q - (tk L i).p else 0
theorem fill_add (L : List T3) (left g : Int) (P : List Nat) : ∀ O : List Int, P.Nodup → (∀ i ∈ P, i < O.length ∧ O.getD i 0 = (tk L i).p) → P.foldl (fillO L left g) O = P.foldl (addP (fullD L left g)) O := by
  induction P with
  | nil => intro O _ _; rfl
  | cons i P ih =>
    intro O hn h
    obtain ⟨h1, h2⟩ := List.nodup_cons.1 hn
    have hi := h i (by simp)
    have e : fillO L left g O i = addP (fullD L left g) O i := by
      unfold fillO addP fullD
      rw [hi.2]
      split
      · congr 1
        omega
      · apply List.ext_getElem
        · simp
        · intro k k1 k2
          simp only [List.getElem_set]
          split
          · rename_i ek
            subst ek
            have := hi.2
            simp [List.getD, hi.1] at this
            rw [this]
            omega
          · rfl
    simp only [List.foldl_cons, e]
    refine ih _ h2 fun j hj => ?_
    have hj' := h j (by simp [hj])
    refine ⟨by rw [addP_len]; exact hj'.1, ?_⟩
    unfold addP
    rw [getD_set _ _ _ _ hi.1, if_neg (by intro e; subst e; exact h1 hj)]
    exact hj'.2

structure ShGood (L : List T3) (room left : Int) (P : List Nat) (O : List Int) : Prop where
  inv : ShInv L left P O
  sum : sumI O + left = room
  inn : ∀ i ∈ P, O.getD i 0 = (tk L i).p
  zero : ∀ i, i < L.length → (tk L i).r = 0 → O.getD i 0 = (tk L i).p
  full : ∀ i, i < L.length → 0 < (tk L i).r → i ∉ P → (tk L i).q ≠ 0 ∧ O.getD i 0 = (tk L i).q ∧ ((tk L i).q - (tk L i).p) * gP L P ≤ left * (tk L i).r
theorem map_getD (L : List T3) (i : Nat) : (L.map (·.p)).getD i 0 = (tk L i).p := by
  by_cases h : i < L.length <;> simp [tk, List.getD, h]
theorem sum_map (L : List T3) : sumI (L.map (·.p)) = sumP L := by
  induction L with
  | nil => rfl
  | cons t L ih => simp [sumI, sumP, ih]
theorem ShGood.start {L : List T3} {room : Int} (hm : ∀ t ∈ L, mayT t = true) (hr : 0 ≤ room ∧ room ≤ 32768) (h : ¬ room - sumP L ≤ 0) : ShGood L room (room - sumP L) (startP L) (L.map (·.p)) :=
  ⟨ShInv.start hm hr h, by rw [sum_map]; omega, fun i _ => map_getD L i, fun i _ _ => map_getD L i, fun i hi h0 hn => (hn (List.mem_filter.2 ⟨List.mem_range.2 hi, by simpa using h0⟩)).elim⟩

theorem fair_key {L : List T3} {left : Int} {P : List Nat} {O : List Int} (h : ShInv L left P O) : left * gP L (restP L left (gP L P) P) ≤ (left - usedP L left (gP L P) P) * gP L P := by
  obtain ⟨g, hg⟩ : ∃ g, gP L P = g := ⟨_, rfl⟩
  rw [hg]
  have h1 : gP L (restP L left g P) = sumN (fun i => if (!fullP L left g i) = true then (tk L i).r else 0) P := sumN_filter _ _ _
  have h2 : g * usedP L left g P ≤ left * sumN (fun i => if fullP L left g i then (tk L i).r else 0) P := by
    unfold usedP
    rw [← sumN_mul, ← sumN_mul]
    refine sumN_le fun i hi => ?_
    split
    · rename_i hf
      unfold fullP at hf
      simp only [Bool.and_eq_true, decide_eq_true_eq] at hf
      exact hf.2
    · simp
  have h3 : g = sumN (fun i => if fullP L left g i then (tk L i).r else 0) P + gP L (restP L left g P) := by
    rw [h1, ← sumN_add, ← hg]
    refine sumN_congr fun i _ => ?_
    rw [hg]
    cases fullP L left g i <;> simp
  generalize sumN (fun i => if fullP L left g i then (tk L i).r else 0) P = R at *
  generalize gP L (restP L left g P) = g' at *
  generalize usedP L left g P = U at *
  have e1 : (left - U) * g = left * g - g * U := by rw [Int.sub_mul, Int.mul_comm U g]
  have e2 : left * g = left * R + left * g' := by rw [← Int.mul_add, ← h3]
  omega
theorem carry_fair {x left left' g g' r : Int} (hg : 0 < g) (hg' : 0 ≤ g') (hr : 0 ≤ r) (h : x * g ≤ left * r) (hk : left * g' ≤ left' * g) : x * g' ≤ left' * r := by
  have h1 : (x * g) * g' ≤ (left * r) * g' := Int.mul_le_mul_of_nonneg_right h hg'
  have h2 : (left * g') * r ≤ (left' * g) * r := Int.mul_le_mul_of_nonneg_right hk hr
  have e1 : (x * g) * g' = g * (x * g') := by rw [Int.mul_comm x g, Int.mul_assoc]
  have e2 : (left * r) * g' = (left * g') * r := by rw [Int.mul_assoc, Int.mul_comm r g', ← Int.mul_assoc]
  have e3 : (left' * g) * r = g * (left' * r) := by rw [Int.mul_comm left' g, Int.mul_assoc]
  have h3 : g * (x * g') ≤ g * (left' * r) := by rw [← e1, ← e3]; rw [e2] at h1; omega
  exact Int.le_of_mul_le_mul_left h3 hg
theorem ShGood.step {L : List T3} {room left : Int} {P : List Nat} {O : List Int} (h : ShGood L room left P O) (hP : P ≠ []) : ShGood L room (left - usedP L left (gP L P) P) (restP L left (gP L P) P) (P.foldl (fillO L left (gP L P)) O) := by
  have hi := h.inv
  have hgb := g_bd hi
  have hpos : 0 < P.length := List.length_pos_iff.2 hP
  have hfa := fill_add L left (gP L P) P O hi.nodup fun i hi' => ⟨by rw [hi.len]; exact (hi.idx i hi').1, h.inn i hi'⟩
  have hget := add_get (fullD L left (gP L P)) P O hi.nodup fun i hi' => by rw [hi.len]; exact (hi.idx i hi').1
  have hsum := add_sum (fullD L left (gP L P)) P O fun i hi' => by rw [hi.len]; exact (hi.idx i hi').1
  have hk := fair_key hi
  have hg' := g_bd hi.step
  refine ⟨hi.step, ?_, ?_, ?_, ?_⟩
  · rw [hfa, hsum]
    have e : sumN (fullD L left (gP L P)) P = usedP L left (gP L P) P := rfl
    rw [e]
    have := h.sum
    omega
  · intro i hir
    obtain ⟨h1, h2⟩ := List.mem_filter.1 hir
    rw [hfa, hget, h.inn i h1, if_pos h1]
    simp only [Bool.not_eq_true'] at h2
    simp [fullD, h2]
  · intro i hi' h0
    have hn : i ∉ P := fun hp => by
      have := (hi.idx i hp).2
      omega
    rw [hfa, hget, if_neg hn, h.zero i hi' h0]
    omega
  · intro i hi' h0 hn
    rw [hfa, hget]
    by_cases hp : i ∈ P
    · have hf : fullP L left (gP L P) i = true := by
        cases hf : fullP L left (gP L P) i
        · exact (hn (List.mem_filter.2 ⟨hp, by simp [hf]⟩)).elim
        · rfl
      have hf2 := hf
      unfold fullP at hf2
      simp only [Bool.and_eq_true, decide_eq_true_eq, Bool.not_eq_true', beq_eq_false_iff_ne, ne_eq] at hf2
      refine ⟨hf2.1, ?_, carry_fair (by omega) (by omega) (by omega) (by rw [Int.mul_comm]; exact hf2.2) hk⟩
      rw [if_pos hp, h.inn i hp]
      simp only [fullD, hf, if_true]
      omega
    · obtain ⟨q0, q1, q2⟩ := h.full i hi' h0 hp
      refine ⟨q0, ?_, carry_fair (by omega) (by omega) (by omega) q2 hk⟩
      rw [if_neg hp, q1]
      omega
end Go.Proofs.Ythannibclhidcaa
