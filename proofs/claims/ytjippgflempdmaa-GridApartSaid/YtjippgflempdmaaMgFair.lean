/- Layer 10: what sharing gives, in plain Lean: the sum, the bounds, fairness. -/
import Derived.Test.YtjippgflempdmaaMgRow
namespace Go.Proofs.Ytjippgflempdmaa
set_option linter.unusedVariables false
set_option linter.unusedSimpArgs false
set_option maxRecDepth 100000
open Go.RowKit

def sumI : List Int → Int
  | [] => 0
  | x :: l => x + sumI l
theorem sumI_append (l m : List Int) : sumI (l ++ m) = sumI l + sumI m := by
  induction l with
  | nil => simp [sumI]
  | cons x l ih => simp only [List.cons_append, sumI, ih]; omega
theorem sumI_set (O : List Int) (i : Nat) (v : Int) (h : i < O.length) : sumI (O.set i v) = sumI O - O.getD i 0 + v := by
  induction O generalizing i with
  | nil => simp at h
  | cons x O ih =>
    cases i with
    | zero => simp [sumI]; omega
    | succ i =>
      have := ih i (by simpa using h)
      simp only [List.set_cons_succ, sumI, List.getD_cons_succ, this]
      omega
def addP (d : Nat → Int) (O : List Int) (i : Nat) : List Int := O.set i (O.getD i 0 + d i)
theorem addP_len (d : Nat → Int) (O : List Int) (i : Nat) : (addP d O i).length = O.length := by simp [addP]
theorem getD_set (O : List Int) (i j : Nat) (v : Int) (h : i < O.length) : (O.set i v).getD j 0 = if j = i then v else O.getD j 0 := by
  by_cases e : j = i
  · subst e
    simp [List.getD, h]
  · have : ¬ i = j := fun h => e h.symm
    simp [List.getD, List.getElem?_set, e, this]
theorem add_sum (d : Nat → Int) (P : List Nat) : ∀ O : List Int, (∀ i ∈ P, i < O.length) → sumI (P.foldl (addP d) O) = sumI O + sumN d P := by
  induction P with
  | nil => intro O _; simp [sumN]
  | cons i P ih =>
    intro O h
    simp only [List.foldl_cons]
    rw [ih _ fun j hj => by rw [addP_len]; exact h j (by simp [hj])]
    unfold addP
    rw [sumI_set _ _ _ (h i (by simp))]
    simp only [sumN]
    omega
theorem add_get (d : Nat → Int) (P : List Nat) : ∀ O : List Int, P.Nodup → (∀ i ∈ P, i < O.length) → ∀ j, (P.foldl (addP d) O).getD j 0 = O.getD j 0 + if j ∈ P then d j else 0 := by
  induction P with
  | nil => intro O _ _ j; simp
  | cons i P ih =>
    intro O hn h j
    obtain ⟨h1, h2⟩ := List.nodup_cons.1 hn
    simp only [List.foldl_cons]
    rw [ih _ h2 (fun j hj => by rw [addP_len]; exact h j (by simp [hj]))]
    unfold addP
    rw [getD_set _ _ _ _ (h i (by simp))]
    by_cases e : j = i
    · subst e
      simp [h1]
    · simp [e]
def fullD (L : List T3) (left g : Int) (i : Nat) : Int := if fullP L left g i then (tk L i).q - (tk L i).p else 0
theorem fill_add (L : List T3) (left g : Int) (P : List Nat) : ∀ O : List Int, P.Nodup → (∀ i ∈ P, i < O.length ∧ O.getD i 0 = (tk L i).p) → P.foldl (fillO L left g) O = P.foldl (addP (fullD L left g)) O := by
  induction P with
  | nil => intro O _ _; rfl
  | cons i P ih =>
    intro O hn h
    obtain ⟨h1, h2⟩ := List.nodup_cons.1 hn
    have hi := h i (by simp)
    have e : fillO L left g O i = addP (fullD L left g) O i := by
      unfold fillO addP fullD
      rw [hi.2]
      split
      · congr 1
        omega
      · apply List.ext_getElem
        · simp
        · intro k k1 k2
          simp only [List.getElem_set]
          split
          · rename_i ek
            subst ek
            have := hi.2
            simp [List.getD, hi.1] at this
            rw [this]
            omega
          · rfl
    simp only [List.foldl_cons, e]
    refine ih _ h2 fun j hj => ?_
    have hj' := h j (by simp [hj])
    refine ⟨by rw [addP_len]; exact hj'.1, ?_⟩
    unfold addP
    rw [getD_set _ _ _ _ hi.1, if_neg (by intro e; subst e; exact h1 hj)]
    exact hj'.2

structure ShGood (L : List T3) (room left : Int) (P : List Nat) (O : List Int) : Prop where
  inv : ShInv L left P O
  sum : sumI O + left = room
  inn : ∀ i ∈ P, O.getD i 0 = (tk L i).p
  zero : ∀ i, i < L.length → (tk L i).r = 0 → O.getD i 0 = (tk L i).p
  full : ∀ i, i < L.length → 0 < (tk L i).r → i ∉ P → (tk L i).q ≠ 0 ∧ O.getD i 0 = (tk L i).q ∧ ((tk L i).q - (tk L i).p) * gP L P ≤ left * (tk L i).r
theorem map_getD (L : List T3) (i : Nat) : (L.map (·.p)).getD i 0 = (tk L i).p := by
  by_cases h : i < L.length <;> simp [tk, List.getD, h]
theorem sum_map (L : List T3) : sumI (L.map (·.p)) = sumP L := by
  induction L with
  | nil => rfl
  | cons t L ih => simp [sumI, sumP, ih]
theorem ShGood.start {L : List T3} {room : Int} (hm : ∀ t ∈ L, mayT t = true) (hr : 0 ≤ room ∧ room ≤ 32768) (h : ¬ room - sumP L ≤ 0) : ShGood L room (room - sumP L) (startP L) (L.map (·.p)) :=
  ⟨ShInv.start hm hr h, by rw [sum_map]; omega, fun i _ => map_getD L i, fun i _ _ => map_getD L i, fun i hi h0 hn => (hn (List.mem_filter.2 ⟨List.mem_range.2 hi, by simpa using h0⟩)).elim⟩

theorem fair_key {L : List T3} {left : Int} {P : List Nat} {O : List Int} (h : ShInv L left P O) : left * gP L (restP L left (gP L P) P) ≤ (left - usedP L left (gP L P) P) * gP L P := by
  obtain ⟨g, hg⟩ : ∃ g, gP L P = g := ⟨_, rfl⟩
  rw [hg]
  have h1 : gP L (restP L left g P) = sumN (fun i => if (!fullP L left g i) = true then (tk L i).r else 0) P := sumN_filter _ _ _
  have h2 : g * usedP L left g P ≤ left * sumN (fun i => if fullP L left g i then (tk L i).r else 0) P := by
    unfold usedP
    rw [← sumN_mul, ← sumN_mul]
    refine sumN_le fun i hi => ?_
    split
    · rename_i hf
      unfold fullP at hf
      simp only [Bool.and_eq_true, decide_eq_true_eq] at hf
      exact hf.2
    · simp
  have h3 : g = sumN (fun i => if fullP L left g i then (tk L i).r else 0) P + gP L (restP L left g P) := by
    rw [h1, ← sumN_add, ← hg]
    refine sumN_congr fun i _ => ?_
    rw [hg]
    cases fullP L left g i <;> simp
  generalize sumN (fun i => if fullP L left g i then (tk L i).r else 0) P = R at *
  generalize gP L (restP L left g P) = g' at *
  generalize usedP L left g P = U at *
  have e1 : (left - U) * g = left * g - g * U := by rw [Int.sub_mul, Int.mul_comm U g]
  have e2 : left * g = left * R + left * g' := by rw [← Int.mul_add, ← h3]
  omega
theorem carry_fair {x left left' g g' r : Int} (hg : 0 < g) (hg' : 0 ≤ g') (hr : 0 ≤ r) (h : x * g ≤ left * r) (hk : left * g' ≤ left' * g) : x * g' ≤ left' * r := by
  have h1 : (x * g) * g' ≤ (left * r) * g' := Int.mul_le_mul_of_nonneg_right h hg'
  have h2 : (left * g') * r ≤ (left' * g) * r := Int.mul_le_mul_of_nonneg_right hk hr
  have e1 : (x * g) * g' = g * (x * g') := by rw [Int.mul_comm x g, Int.mul_assoc]
  have e2 : (left * r) * g' = (left * g') * r := by rw [Int.mul_assoc, Int.mul_comm r g', ← Int.mul_assoc]
  have e3 : (left' * g) * r = g * (left' * r) := by rw [Int.mul_comm left' g, Int.mul_assoc]
  have h3 : g * (x * g') ≤ g * (left' * r) := by rw [← e1, ← e3]; rw [e2] at h1; omega
  exact Int.le_of_mul_le_mul_left h3 hg
theorem ShGood.step {L : List T3} {room left : Int} {P : List Nat} {O : List Int} (h : ShGood L room left P O) (hP : P ≠ []) : ShGood L room (left - usedP L left (gP L P) P) (restP L left (gP L P) P) (P.foldl (fillO L left (gP L P)) O) := by
  have hi := h.inv
  have hgb := g_bd hi
  have hpos : 0 < P.length := List.length_pos_iff.2 hP
  have hfa := fill_add L left (gP L P) P O hi.nodup fun i hi' => ⟨by rw [hi.len]; exact (hi.idx i hi').1, h.inn i hi'⟩
  have hget := add_get (fullD L left (gP L P)) P O hi.nodup fun i hi' => by rw [hi.len]; exact (hi.idx i hi').1
  have hsum := add_sum (fullD L left (gP L P)) P O fun i hi' => by rw [hi.len]; exact (hi.idx i hi').1
  have hk := fair_key hi
  have hg' := g_bd hi.step
  refine ⟨hi.step, ?_, ?_, ?_, ?_⟩
  · rw [hfa, hsum]
    have e : sumN (fullD L left (gP L P)) P = usedP L left (gP L P) P := rfl
    rw [e]
    have := h.sum
    omega
  · intro i hir
    obtain ⟨h1, h2⟩ := List.mem_filter.1 hir
    rw [hfa, hget, h.inn i h1, if_pos h1]
    simp only [Bool.not_eq_true'] at h2
    simp [fullD, h2]
  · intro i hi' h0
    have hn : i ∉ P := fun hp => by
      have := (hi.idx i hp).2
      omega
    rw [hfa, hget, if_neg hn, h.zero i hi' h0]
    omega
  · intro i hi' h0 hn
    rw [hfa, hget]
    by_cases hp : i ∈ P
    · have hf : fullP L left (gP L P) i = true := by
        cases hf : fullP L left (gP L P) i
        · exact (hn (List.mem_filter.2 ⟨hp, by simp [hf]⟩)).elim
        · rfl
      have hf2 := hf
      unfold fullP at hf2
      simp only [Bool.and_eq_true, decide_eq_true_eq, Bool.not_eq_true', beq_eq_false_iff_ne, ne_eq] at hf2
      refine ⟨hf2.1, ?_, carry_fair (by omega) (by omega) (by omega) (by rw [Int.mul_comm]; exact hf2.2) hk⟩
      rw [if_pos hp, h.inn i hp]
      simp only [fullD, hf, if_true]
      omega
    · obtain ⟨q0, q1, q2⟩ := h.full i hi' h0 hp
      refine ⟨q0, ?_, carry_fair (by omega) (by omega) (by omega) q2 hk⟩
      rw [if_neg hp, q1]
      omega
end Go.Proofs.Ytjippgflempdmaa

/- Layer 10: what sharing gives, in plain Lean: the end of the rounds. -/
namespace Go.Proofs.Ytjippgflempdmaa
set_option linter.unusedVariables false
set_option linter.unusedSimpArgs false
set_option maxRecDepth 100000
open Go.RowKit

def topT (t : T3) : Int := if t.r = 0 then t.p else t.q
def topS : List T3 → Int
  | [] => 0
  | t :: L => topT t + topS L
theorem most_top {L : List T3} (h : ∀ t ∈ L, t.r = 0 ∨ t.q ≠ 0) : ∀ n, mostG L n = n + topS L := by
  induction L with
  | nil => intro n; simp [mostG, topS]
  | cons t L ih =>
    intro n
    have h1 := h t (by simp)
    have h2 := ih fun t ht => h t (by simp [ht])
    simp only [mostG, topS, topT]
    by_cases e : t.r = 0
    · rw [if_pos e, if_pos e, h2]
      omega
    · rw [if_neg e, if_neg e, if_neg (by rcases h1 with h1 | h1; exact (e h1).elim; exact h1), h2]
      omega
theorem most_no {L : List T3} (h : ∃ t ∈ L, t.r ≠ 0 ∧ t.q = 0) : ∀ n, mostG L n = -1 := by
  induction L with
  | nil => obtain ⟨t, ht, _⟩ := h; cases ht
  | cons t L ih =>
    intro n
    simp only [mostG]
    obtain ⟨u, hu, h1, h2⟩ := h
    by_cases e : t.r = 0
    · rw [if_pos e]
      refine ih ⟨u, ?_, h1, h2⟩ _
      rcases List.mem_cons.1 hu with rfl | hu
      · exact (h1 e).elim
      · exact hu
    · rw [if_neg e]
      by_cases e2 : t.q = 0
      · rw [if_pos e2]
      · rw [if_neg e2]
        refine ih ⟨u, ?_, h1, h2⟩ _
        rcases List.mem_cons.1 hu with rfl | hu
        · exact (e2 h2).elim
        · exact hu
theorem sum_le_top {L : List T3} : ∀ {A : List Int}, A.length = L.length → (∀ i, i < L.length → A.getD i 0 ≤ topT (tk L i)) → sumI A ≤ topS L := by
  induction L with
  | nil =>
    intro A hl _
    have : A = [] := List.eq_nil_of_length_eq_zero (by simpa using hl)
    subst this
    simp [sumI, topS]
  | cons t L ih =>
    intro A hl h
    match A, hl with
    | x :: A, hl =>
      have h0 := h 0 (by simp)
      have h1 := ih (A := A) (by simpa using hl) fun i hi => by
        have := h (i + 1) (by simpa using hi)
        simpa [tk] using this
      simp [tk] at h0
      simp only [sumI, topS]
      omega
theorem sum_ge_top {L : List T3} : ∀ {A : List Int}, A.length = L.length → (∀ i, i < L.length → topT (tk L i) ≤ A.getD i 0) → topS L ≤ sumI A := by
  induction L with
  | nil =>
    intro A hl _
    have : A = [] := List.eq_nil_of_length_eq_zero (by simpa using hl)
    subst this
    simp [sumI, topS]
  | cons t L ih =>
    intro A hl h
    match A, hl with
    | x :: A, hl =>
      have h0 := h 0 (by simp)
      have h1 := ih (A := A) (by simpa using hl) fun i hi => by
        have := h (i + 1) (by simpa using hi)
        simpa [tk] using this
      simp [tk] at h0
      simp only [sumI, topS]
      omega

structure Fair (L : List T3) (room : Int) (A : List Int) : Prop where
  len : A.length = L.length
  low : ∀ i, i < L.length → (tk L i).p ≤ A.getD i 0
  zero : ∀ i, i < L.length → (tk L i).r = 0 → A.getD i 0 = (tk L i).p
  top : ∀ i, i < L.length → (tk L i).q ≠ 0 → A.getD i 0 ≤ (tk L i).q
  fair : ∀ i k, i < L.length → k < L.length → (tk L i).p < A.getD i 0 → 0 < (tk L k).r → ((tk L k).q = 0 ∨ A.getD k 0 < (tk L k).q) → (A.getD i 0 - (tk L i).p - 1) * (tk L k).r < (A.getD k 0 - (tk L k).p + 1) * (tk L i).r
  sum : sumI A = room ∨ (∀ i, i < L.length → A.getD i 0 = topT (tk L i)) ∧ (∀ i, i < L.length → (tk L i).r ≠ 0 → (tk L i).q ≠ 0) ∧ sumI A ≤ room ∨ sumI A = sumP L ∧ room ≤ sumP L
theorem fair_end {x y g left ri rk : Int} (hg : 0 < g) (hi : 0 < ri) (hk : 0 < rk) (h1 : (x - 1) * g ≤ left * ri) (h2 : left * rk < (y + 1) * g) : (x - 1) * rk < (y + 1) * ri := by
  have a1 : ((x - 1) * g) * rk ≤ (left * ri) * rk := Int.mul_le_mul_of_nonneg_right h1 (by omega)
  have a2 : (left * rk) * ri < ((y + 1) * g) * ri := Int.mul_lt_mul_of_pos_right h2 hi
  have e1 : ((x - 1) * g) * rk = g * ((x - 1) * rk) := by rw [Int.mul_comm (x - 1) g, Int.mul_assoc]
  have e2 : (left * ri) * rk = (left * rk) * ri := by rw [Int.mul_assoc, Int.mul_comm ri rk, ← Int.mul_assoc]
  have e3 : ((y + 1) * g) * ri = g * ((y + 1) * ri) := by rw [Int.mul_comm (y + 1) g, Int.mul_assoc]
  have a3 : g * ((x - 1) * rk) < g * ((y + 1) * ri) := by rw [← e1, ← e3]; omega
  exact Int.lt_of_mul_lt_mul_left a3 (by omega)
theorem Fair.none {L : List T3} {room left : Int} {O : List Int} (h : ShGood L room left [] O) : Fair L room O := by
  have hm := h.inv.may
  have hv : ∀ i, i < L.length → ((tk L i).r = 0 ∧ O.getD i 0 = (tk L i).p) ∨ 0 < (tk L i).r ∧ (tk L i).q ≠ 0 ∧ O.getD i 0 = (tk L i).q := fun i hi => by
    have hb := tk_bd hm i
    by_cases e : (tk L i).r = 0
    · exact .inl ⟨e, h.zero i hi e⟩
    · obtain ⟨q0, q1, _⟩ := h.full i hi (by omega) (by simp)
      exact .inr ⟨by omega, q0, q1⟩
  refine ⟨h.inv.len, fun i hi => ?_, h.zero, fun i hi hq => ?_, fun i k hi hk hx hr hq => ?_, .inr (.inl ⟨fun i hi => ?_, fun i hi hr => ?_, by have := h.sum; have := h.inv.left; omega⟩)⟩
  · have hb := tk_bd hm i
    have := hv i hi
    omega
  · have hb := tk_bd hm i
    have := hv i hi
    omega
  · have hb := tk_bd hm k
    have := hv k hk
    omega
  · have := hv i hi
    unfold topT
    split <;> omega
  · have := hv i hi
    omega
theorem Fair.plain {L : List T3} {room : Int} (hm : ∀ t ∈ L, mayT t = true) (h : room - sumP L ≤ 0) : Fair L room (L.map (·.p)) := by
  refine ⟨by simp, fun i hi => by rw [map_getD]; omega, fun i hi _ => map_getD L i, fun i hi hq => ?_, fun i k hi hk hx hr hq => ?_, .inr (.inr ⟨sum_map L, by omega⟩)⟩
  · have hb := tk_bd hm i
    rw [map_getD]
    omega
  · rw [map_getD] at hx
    omega
theorem div_facts {a g : Int} (hg : 0 < g) : a / g * g ≤ a ∧ a < (a / g + 1) * g := by
  have h1 := Int.emod_nonneg a (show g ≠ 0 by omega)
  have h2 := Int.emod_lt_of_pos a hg
  have h3 := Int.mul_ediv_add_emod a g
  rw [Int.mul_comm] at h3
  have h4 : (a / g + 1) * g = a / g * g + g := by rw [Int.add_mul]; omega
  omega
theorem Fair.done {L : List T3} {room left : Int} {P : List Nat} {O : List Int} (h : ShGood L room left P O) (hP : P ≠ []) (he : (restP L left (gP L P) P).length = P.length) : Fair L room (doneP L left P O) := by
  have hi := h.inv
  have hm := hi.may
  have hgb := g_bd hi
  have hpos : 0 < P.length := List.length_pos_iff.2 hP
  have hnf := (rest_same he).2
  have hu : usedP L left (gP L P) P = 0 := by
    unfold usedP
    rw [sumN_congr (g := fun _ => 0) (fun i hi => by rw [hnf i hi]; rfl), sumN_const]
    simp
  have hsp := spent_bd hi hP
  obtain ⟨g, hg⟩ : ∃ g, gP L P = g := ⟨_, rfl⟩
  rw [hg] at hgb hnf hsp
  have hg0 : 0 < g := by omega
  obtain ⟨m, hmm⟩ : ∃ m, (left - spentP L left g P).toNat = m := ⟨_, rfl⟩
  have hidx : ∀ i ∈ P, i < O.length := fun i hi' => by rw [hi.len]; exact (hi.idx i hi').1
  have hidx2 : ∀ i ∈ P.take m, i < (P.foldl (growO L left g) O).length := fun i hi' => by
    rw [fold_len _ (grow_len L left g)]
    exact hidx i (List.mem_of_mem_take hi')
  have hA : doneP L left P O = (P.take m).foldl (addP fun _ => 1) (P.foldl (addP fun i => left * (tk L i).r / g) O) := by
    unfold doneP
    rw [hg, hmm]
    rfl
  have hG : P.foldl (growO L left g) O = P.foldl (addP fun i => left * (tk L i).r / g) O := rfl
  rw [hG] at hidx2
  have hget : ∀ i, (doneP L left P O).getD i 0 = O.getD i 0 + (if i ∈ P then left * (tk L i).r / g else 0) + (if i ∈ P.take m then 1 else 0) := fun i => by
    rw [hA, add_get _ _ _ (hi.nodup.sublist (List.take_sublist _ _)) hidx2, add_get _ _ _ hi.nodup hidx]
  have hbump : ∀ i, i ∉ P → i ∉ P.take m := fun i hn ht => hn (List.mem_of_mem_take ht)
  have hin : ∀ i, i ∈ P → (tk L i).p + left * (tk L i).r / g ≤ (doneP L left P O).getD i 0 ∧ (doneP L left P O).getD i 0 ≤ (tk L i).p + left * (tk L i).r / g + 1 := fun i hp => by
    rw [hget, if_pos hp, h.inn i hp]
    split <;> omega
  have hout : ∀ i, i < L.length → i ∉ P → (doneP L left P O).getD i 0 = O.getD i 0 := fun i _ hn => by
    rw [hget, if_neg hn, if_neg (hbump i hn)]
    omega
  have hnn : ∀ i, 0 ≤ left * (tk L i).r / g := fun i => Int.ediv_nonneg (Int.mul_nonneg hi.left.1 (tk_bd hm i).2.2.1) (by omega)
  have hdiv := fun i => div_facts (a := left * (tk L i).r) hg0
  have hold : ∀ i, i < L.length → i ∉ P → ((tk L i).r = 0 ∧ (doneP L left P O).getD i 0 = (tk L i).p) ∨ 0 < (tk L i).r ∧ (tk L i).q ≠ 0 ∧ (doneP L left P O).getD i 0 = (tk L i).q ∧ ((tk L i).q - (tk L i).p) * g ≤ left * (tk L i).r := fun i hi' hn => by
    have hb := tk_bd hm i
    rw [hout i hi' hn]
    by_cases e : (tk L i).r = 0
    · exact .inl ⟨e, h.zero i hi' e⟩
    · have := h.full i hi' (by omega) hn
      rw [hg] at this
      exact .inr ⟨by omega, this⟩
  refine ⟨by unfold doneP; rw [fold_len _ bump_len, fold_len _ (grow_len L left _), hi.len], fun i hi' => ?_, fun i hi' h0 => ?_, fun i hi' hq => ?_, fun i k hi' hk hx hr hq => ?_, .inl ?_⟩
  · by_cases hp : i ∈ P
    · have := hin i hp
      have := hnn i
      omega
    · have hb := tk_bd hm i
      have := hold i hi' hp
      omega
  · have hn : i ∉ P := fun hp => by
      have := (hi.idx i hp).2
      omega
    have := hold i hi' hn
    omega
  · by_cases hp : i ∈ P
    · have h1 := hin i hp
      have h2 := hnf i hp
      unfold fullP at h2
      have h3 : ¬ g * ((tk L i).q - (tk L i).p) ≤ left * (tk L i).r := by
        intro h3
        simp [hq, h3] at h2
      have h4 : left * (tk L i).r / g < (tk L i).q - (tk L i).p := Int.ediv_lt_of_lt_mul hg0 (by rw [Int.mul_comm ((tk L i).q - (tk L i).p) g]; omega)
      omega
    · have hb := tk_bd hm i
      have := hold i hi' hp
      omega
  · have hkp : k ∈ P := by
      by_cases hp : k ∈ P
      · exact hp
      · have := hold k hk hp
        omega
    have hkb := hin k hkp
    have hkd := (hdiv k).2
    have hri : 0 < (tk L i).r ∧ ((doneP L left P O).getD i 0 - (tk L i).p - 1) * g ≤ left * (tk L i).r := by
      by_cases hp : i ∈ P
      · refine ⟨(hi.idx i hp).2, ?_⟩
        have h1 := hin i hp
        have h2 := (hdiv i).1
        have h3 : ((doneP L left P O).getD i 0 - (tk L i).p - 1) * g ≤ left * (tk L i).r / g * g := Int.mul_le_mul_of_nonneg_right (by omega) (by omega)
        omega
      · rcases hold i hi' hp with h1 | ⟨h1, h2, h3, h4⟩
        · omega
        · refine ⟨h1, ?_⟩
          rw [h3]
          have h5 : ((tk L i).q - (tk L i).p - 1) * g ≤ ((tk L i).q - (tk L i).p) * g := Int.mul_le_mul_of_nonneg_right (by omega) (by omega)
          omega
    refine fair_end hg0 hri.1 hr hri.2 ?_
    have h6 : (left * (tk L k).r / g + 1) * g ≤ ((doneP L left P O).getD k 0 - (tk L k).p + 1) * g := Int.mul_le_mul_of_nonneg_right (by omega) (by omega)
    omega
  · rw [hA, add_sum _ _ _ hidx2, add_sum _ _ _ hidx, sumN_const]
    have e : sumN (fun i => left * (tk L i).r / g) P = spentP L left g P := rfl
    rw [e, List.length_take]
    have := h.sum
    omega
theorem rounds_fair {L : List T3} {room : Int} : ∀ (f : Nat) (left : Int) (P : List Nat) (O : List Int), P.length < f → ShGood L room left P O → Fair L room (roundsP L f left P O) := by
  intro f
  induction f with
  | zero => intro left P O h; omega
  | succ f ih =>
    intro left P O hf h
    unfold roundsP
    split
    · rename_i hP
      subst hP
      exact Fair.none h
    · rename_i hP
      split
      · rename_i he
        exact Fair.done h hP he
      · rename_i hne
        have := rest_le L left (gP L P) P
        exact ih _ _ _ (by omega) (h.step hP)
theorem share_fair {L : List T3} {room : Int} (hm : ∀ t ∈ L, mayT t = true) (hr : 0 ≤ room ∧ room ≤ 32768) : Fair L room (shareP L room) := by
  unfold shareP
  split
  · rename_i h
    exact Fair.plain hm h
  · rename_i h
    have hg := ShGood.start hm hr h
    exact rounds_fair _ _ _ _ (by have := hg.inv.plen; omega) hg
end Go.Proofs.Ytjippgflempdmaa

/- Layer 10: the sum against the most that can be. -/
namespace Go.Proofs.Ytjippgflempdmaa
set_option linter.unusedVariables false
set_option linter.unusedSimpArgs false
set_option maxRecDepth 100000
open Go.RowKit

theorem tk_mem {L : List T3} {i : Nat} (h : i < L.length) : tk L i ∈ L := by
  rw [tk_at h]
  exact List.getElem_mem _
theorem most_cases {L : List T3} (hm : ∀ t ∈ L, mayT t = true) : mostG L 0 = -1 ∧ (∃ t ∈ L, t.r ≠ 0 ∧ t.q = 0) ∨ mostG L 0 = topS L ∧ sumP L ≤ topS L ∧ ∀ t ∈ L, t.r = 0 ∨ t.q ≠ 0 := by
  by_cases h : ∀ t ∈ L, t.r = 0 ∨ t.q ≠ 0
  · right
    refine ⟨by rw [most_top h]; omega, ?_, h⟩
    induction L with
    | nil => simp [sumP, topS]
    | cons t L ih =>
      have h1 := ih (fun t ht => hm t (by simp [ht])) (fun t ht => h t (by simp [ht]))
      have h2 := (mayT_iff t).1 (hm t (by simp))
      have h3 := h t (by simp)
      simp only [sumP, topS, topT]
      split <;> omega
  · left
    have h' : ∃ t ∈ L, t.r ≠ 0 ∧ t.q = 0 := by
      apply Classical.byContradiction
      intro hn
      refine h fun t ht => ?_
      by_cases e : t.r = 0
      · exact .inl e
      · exact .inr fun e2 => hn ⟨t, ht, e, e2⟩
    exact ⟨most_no h' 0, h'⟩
theorem sum_ge_min {L : List T3} : ∀ {A : List Int}, A.length = L.length → (∀ i, i < L.length → (tk L i).p ≤ A.getD i 0) → sumP L ≤ sumI A := by
  induction L with
  | nil =>
    intro A hl _
    have : A = [] := List.eq_nil_of_length_eq_zero (by simpa using hl)
    subst this
    simp [sumI, sumP]
  | cons t L ih =>
    intro A hl h
    match A, hl with
    | x :: A, hl =>
      have h0 := h 0 (by simp)
      have h1 := ih (A := A) (by simpa using hl) fun i hi => by
        have := h (i + 1) (by simpa using hi)
        simpa [tk] using this
      simp [tk] at h0
      simp only [sumI, sumP]
      omega
/-- What the statement asks of the sum. -/
theorem fair_sum {L : List T3} {room : Int} {A : List Int} (hm : ∀ t ∈ L, mayT t = true) (h : Fair L room A) : sumI A = if 0 ≤ mostG L 0 then min (max (sumP L) room) (mostG L 0) else max (sumP L) room := by
  have hmin := sum_ge_min h.len h.low
  have hsp := sumP_bd hm
  rcases most_cases hm with ⟨h1, t, ht, hr, hq⟩ | ⟨h1, h2, h3⟩
  · rw [if_neg (by omega)]
    rcases h.sum with hs | ⟨_, hs, _⟩ | ⟨hs, hs'⟩
    · omega
    · obtain ⟨i, hi, e⟩ := List.mem_iff_getElem.1 ht
      rw [← tk_at hi] at e
      subst e
      exact (hs i hi hr hq).elim
    · omega
  · rw [if_pos (by omega), h1]
    have hle : sumI A ≤ topS L := by
      refine sum_le_top h.len fun i hi => ?_
      unfold topT
      split
      · rename_i e
        rw [h.zero i hi e]
        exact Int.le_refl _
      · rename_i e
        rcases h3 _ (tk_mem hi) with e2 | e2
        · exact (e e2).elim
        · exact h.top i hi e2
    rcases h.sum with hs | ⟨hs, _, hs'⟩ | ⟨hs, hs'⟩
    · omega
    · have := sum_ge_top h.len fun i hi => by rw [hs i hi]; exact Int.le_refl _
      omega
    · omega
end Go.Proofs.Ytjippgflempdmaa
