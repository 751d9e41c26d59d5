/- Layer 10: what sharing gives, in plain Lean: the end of the rounds. -/
import Derived.Test.YthannibclhidcaaShFair
namespace Go.Proofs.Ythannibclhidcaa
set_option linter.unusedVariables false
set_option linter.unusedSimpArgs false
open Go.RowKit

def topT (t : T3) : Int := if t.r = 0 then t.p else t.q
def topS : List T3 → Int
  | [] => 0
  | t :: L => topT t + topS L
theorem most_top {L : List T3} (h : ∀ t ∈ L, t.r = 0 ∨ t.q ≠ 0) : ∀ n, mostG L n = n + topS L := by
  induction L with
  | nil => intro n; simp [mostG, topS]
  | cons t L ih =>
    intro n
    have h1 := h t (by simp)
    have h2 := ih fun t ht => h t (by simp [ht])
    simp only [mostG, topS, topT]
    by_cases e : t.r = 0
    · rw [if_pos e, if_pos e, h2]
      omega
    · rw [if_neg e, if_neg e, if_neg (by rcases h1 with h1 | h1; exact (e h1).elim; exact h1), h2]
      omega
theorem most_no {L : List T3} (h : ∃ t ∈ L, t.r ≠ 0 ∧ t.q = 0) : ∀ n, mostG L n = -1 := by
  induction L with
  | nil => obtain ⟨t, ht, _⟩ := h; cases ht
  | cons t L ih =>
    intro n
    simp only [mostG]
    obtain ⟨u, hu, h1, h2⟩ := h
    by_cases e : t.r = 0
    · rw [if_pos e]
      refine ih ⟨u, ?_, h1, h2⟩ _
      rcases List.mem_cons.1 hu with rfl | hu
      · exact (h1 e).elim
      · exact hu
    · rw [if_neg e]
      by_cases e2 : t.q = 0
      · rw [if_pos e2]
      · rw [if_neg e2]
        refine ih ⟨u, ?_, h1, h2⟩ _
        rcases List.mem_cons.1 hu with rfl | hu
        · exact (e2 h2).elim
        · exact hu
theorem sum_le_top {L : List T3} : ∀ {A : List Int}, A.length = L.length → (∀ i, i < L.length → A.getD i 0 ≤ topT (tk L i)) → sumI A ≤ topS L := by
  induction L with
  | nil =>
    intro A hl _
    have : A = [] := List.eq_nil_of_length_eq_zero (by simpa using hl)
    subst this
    simp [sumI, topS]
  | cons t L ih =>
    intro A hl h
    match A, hl with
    | x :: A, hl =>
      have h0 := h 0 (by simp)
      have h1 := ih (A := A) (by simpa using hl) fun i hi => by
        have := h (i + 1) (by simpa using hi)
        simpa [tk] using this
      simp [tk] at h0
      simp only [sumI, topS]
      omega
theorem sum_ge_top {L : List T3} : ∀ {A : List Int}, A.length = L.length → (∀ i, i < L.length → topT (tk L i) ≤ A.getD i 0) → topS L ≤ sumI A := by
  induction L with
  | nil =>
    intro A hl _
    have : A = [] := List.eq_nil_of_length_eq_zero (by simpa using hl)
    subst this
    simp [sumI, topS]
  | cons t L ih =>
    intro A hl h
    match A, hl with
    | x :: A, hl =>
      have h0 := h 0 (by simp)
      have h1 := ih (A := A) (by simpa using hl) fun i hi => by
        have := h (i + 1) (by simpa using hi)
        simpa [tk] using this
      simp [tk] at h0
      simp only [sumI, topS]
      omega

structure Fair (L : List T3) (room : Int) (A : List Int) : Prop where
  len : A.length = L.length
  low : ∀ i, i < L.length → (tk L i).p ≤ A.getD i 0
  zero : ∀ i, i < L.length → (tk L i).r = 0 → A.getD i 0 = (tk L i).p
  top : ∀ i, i < L.length → (tk L i).q ≠ 0 → A.getD i 0 ≤ (tk L i).q
  fair : ∀ i k, i < L.length → k < L.length → (tk L i).p < A.getD i 0 → 0 < (tk L k).r → ((tk L k).q = 0 ∨ A.getD k 0 < (tk L k).q) → (A.getD i 0 - (tk L i).p - 1) * (tk L k).r < (A.getD k 0 - (tk L k).p + 1) * (tk L i).r
  sum : sumI A = room ∨ (∀ i, i < L.length → A.getD i 0 = topT (tk L i)) ∧ (∀ i, i < L.length → (tk L i).r ≠ 0 → (tk L i).q ≠ 0) ∧ sumI A ≤ room ∨ sumI A = sumP L ∧ room ≤ sumP L
theorem fair_end {x y g left ri rk : Int} (hg : 0 < g) (hi : 0 < ri) (hk : 0 < rk) (h1 : (x - 1) * g ≤ left * ri) (h2 : left * rk < (y + 1) * g) : (x - 1) * rk < (y + 1) * ri := by
  have a1 : ((x - 1) * g) * rk ≤ (left * ri) * rk := Int.mul_le_mul_of_nonneg_right h1 (by omega)
  have a2 : (left * rk) * ri < ((y + 1) * g) * ri := Int.mul_lt_mul_of_pos_right h2 hi
  have e1 : ((x - 1) * g) * rk = g * ((x - 1) * rk) := by rw [Int.mul_comm (x - 1) g, Int.mul_assoc]
  have e2 : (left * ri) * rk = (left * rk) * ri := by rw [Int.mul_assoc, Int.mul_comm ri rk, ← Int.mul_assoc]
  have e3 : ((y + 1) * g) * ri = g * ((y + 1) * ri) := by rw [Int.mul_comm (y + 1) g, Int.mul_assoc]
  have a3 : g * ((x - 1) * rk) < g * ((y + 1) * ri) := by rw [← e1, ← e3]; omega
  exact Int.lt_of_mul_lt_mul_left a3 (by omega)
theorem Fair.none {L : List T3} {room left : Int} {O : List Int} (h : ShGood L room left [] O) : Fair L room O := by
  have hm := h.inv.may
  have hv : ∀ i, i < L.length → ((tk L i).r = 0 ∧ O.getD i 0 = (tk L i).p) ∨ 0 < (tk L i).r ∧ (tk L i).q ≠ 0 ∧ O.getD i 0 = (tk L i).q := fun i hi => by
    have hb := tk_bd hm i
    by_cases e : (tk L i).r = 0
    · exact .inl ⟨e, h.zero i hi e⟩
    · obtain ⟨q0, q1, _⟩ := h.full i hi (by omega) (by simp)
      exact .inr ⟨by omega, q0, q1⟩
  refine ⟨h.inv.len, fun i hi => ?_, h.zero, fun i hi hq => ?_, fun i k hi hk hx hr hq => ?_, .inr (.inl ⟨fun i hi => ?_, fun i hi hr => ?_, by have := h.sum; have := h.inv.left; omega⟩)⟩
  · have hb := tk_bd hm i
    have := hv i hi
    omega
  · have hb := tk_bd hm i
    have := hv i hi
    omega
  · have hb := tk_bd hm k
    have := hv k hk
    omega
  · have := hv i hi
    unfold topT
    split <;> omega
  · have := hv i hi
    omega
theorem Fair.plain {L : List T3} {room : Int} (hm : ∀ t ∈ L, mayT t = true) (h : room - sumP L ≤ 0) : Fair L room (L.map (·.p)) := by
  refine ⟨by simp, fun i hi => by rw [map_getD]; omega, fun i hi _ => map_getD L i, fun i hi hq => ?_, fun i k hi hk hx hr hq => ?_, .inr (.inr ⟨sum_map L, by omega⟩)⟩
  · have hb := tk_bd hm i
    rw [map_getD]
    omega
  · rw [map_getD] at hx
    omega
theorem div_facts {a g : Int} (hg : 0 < g) : a / g * g ≤ a ∧ a < (a / g + 1) * g := by
  have h1 := Int.emod_nonneg a (show g ≠ 0 by omega)
  have h2 := Int.emod_lt_of_pos a hg
  have h3 := Int.mul_ediv_add_emod a g
  rw [Int.mul_comm] at h3
  have h4 : (a / g + 1) * g = a / g * g + g := by rw [Int.add_mul]; omega
  omega
theorem Fair.done {L : List T3} {room left : Int} {P : List Nat} {O : List Int} (h : ShGood L room left P O) (hP : P ≠ []) (he : (restP L left (gP L P) P).length = P.length) : Fair L room (doneP L left P O) := by
  have hi := h.inv
  have hm := hi.may
  have hgb := g_bd hi
  have hpos : 0 < P.length := List.length_pos_iff.2 hP
  have hnf := (rest_same he).2
  have hu : usedP L left (gP L P) P = 0 := by
    unfold usedP
    rw [sumN_congr (g := fun _ => 0) (fun i hi => by rw [hnf i hi]; rfl), sumN_const]
    simp
  have hsp := spent_bd hi hP
  obtain ⟨g, hg⟩ : ∃ g, gP L P = g := ⟨_, rfl⟩
  rw [hg] at hgb hnf hsp
  have hg0 : 0 < g := by omega
  obtain ⟨m, hmm⟩ : ∃ m, (left - spentP L left g P).toNat = m := ⟨_, rfl⟩
  have hidx : ∀ i ∈ P, i < O.length := fun i hi' => by rw [hi.len]; exact (hi.idx i hi').1
  have hidx2 : ∀ i ∈ P.take m, i < (P.foldl (growO L left g) O).length := fun i hi' => by
    rw [fold_len _ (grow_len L left g)]
    exact hidx i (List.mem_of_mem_take hi')
  have hA : doneP L left P O = (P.take m).foldl (addP fun _ => 1) (P.foldl (addP fun i => left * (tk L i).r / g) O) := by
    unfold doneP
    rw [hg, hmm]
    rfl
  have hG : P.foldl (growO L left g) O = P.foldl (addP fun i => left * (tk L i).r / g) O := rfl
  rw [hG] at hidx2
  have hget : ∀ i, (doneP L left P O).getD i 0 = O.getD i 0 + (if i ∈ P then left * (tk L i).r / g else 0) + (if i ∈ P.take m then 1 else 0) := fun i => by
    rw [hA, add_get _ _ _ (hi.nodup.sublist (List.take_sublist _ _)) hidx2, add_get _ _ _ hi.nodup hidx]
  have hbump : ∀ i, i ∉ P → i ∉ P.take m := fun i hn ht => hn (List.mem_of_mem_take ht)
  have hin : ∀ i, i ∈ P → (tk L i).p + left * (tk L i).r / g ≤ (doneP L left P O).getD i 0 ∧ (doneP L left P O).getD i 0 ≤ (tk L i).p + left * (tk L i).r / g + 1 := fun i hp => by
    rw [hget, if_pos hp, h.inn i hp]
    split <;> omega
  have hout : ∀ i, i < L.length → i ∉ P → (doneP L left P O).getD i 0 = O.getD i 0 := fun i _ hn => by
    rw [hget, if_neg hn, if_neg (hbump i hn)]
    omega
  have hnn : ∀ i, 0 ≤ left * (tk L i).r / g := fun i => Int.ediv_nonneg (Int.mul_nonneg hi.left.1 (tk_bd hm i).2.2.1) (by omega)
  have hdiv := fun i => div_facts (a := left * (tk L i).r) hg0
  have hold : ∀ i, i < L.length → i ∉ P → ((tk L i).r = 0 ∧ (doneP L left P O).getD i 0 = (tk L i).p) ∨ 0 < (tk L i).r ∧ (tk L i).q ≠ 0 ∧ (doneP L left P O).getD i 0 = (tk L i).q ∧ ((tk L i).q - (tk L i).p) * g ≤ left * (tk L i).r := fun i hi' hn => by
    have hb := tk_bd hm i
    rw [hout i hi' hn]
    by_cases e : (tk L i).r = 0
    · exact .inl ⟨e, h.zero i hi' e⟩
    · have := h.full i hi' (by omega) hn
      rw [hg] at this
      exact .inr ⟨by omega, this⟩
  refine ⟨by unfold doneP; rw [fold_len _ bump_len, fold_len _ (grow_len L left _), hi.len], fun i hi' => ?_, fun i hi' h0 => ?_, fun i hi' hq => ?_, fun i k hi' hk hx hr hq => ?_, .inl ?_⟩
  · by_cases hp : i ∈ P
    · have := hin i hp
      have := hnn i
      omega
    · have hb := tk_bd hm i
      have := hold i hi' hp
      omega
  · have hn : i ∉ P := fun hp => by
      have := (hi.idx i hp).2
      omega
    have := hold i hi' hn
    omega
  · by_cases hp : i ∈ P
    · have h1 := hin i hp
      have h2 := hnf i hp
      unfold fullP at h2
      have h3 : ¬ g * ((tk L i).q - (tk L i).p) ≤ left * (tk L i).r := by
        intro h3
        simp [hq, h3] at h2
      have h4 : left * (tk L i).r / g < (tk L i).q - (tk L i).p := Int.ediv_lt_of_lt_mul hg0 (by rw [Int.mul_comm ((tk L i).q - (tk L i).p) g]; omega)
      omega
    · have hb := tk_bd hm i
      have := hold i hi' hp
      omega
  · have hkp : k ∈ P := by
      by_cases hp : k ∈ P
      · exact hp
      · have := hold k hk hp
        omega
    have hkb := hin k hkp
    have hkd := (hdiv k).2
    have hri : 0 < (tk L i).r ∧ ((doneP L left P O).getD i 0 - (tk L i).p - 1) * g ≤ left * (tk L i).r := by
      by_cases hp : i ∈ P
      · refine ⟨(hi.idx i hp).2, ?_⟩
        have h1 := hin i hp
        have h2 := (hdiv i).1
        have h3 : ((doneP L left P O).getD i 0 - (tk L i).p - 1) * g ≤ left * (tk L i).r / g * g := Int.mul_le_mul_of_nonneg_right (by omega) (by omega)
        omega
      · rcases hold i hi' hp with h1 | ⟨h1, h2, h3, h4⟩
        · omega
        · refine ⟨h1, ?_⟩
          rw [h3]
          have h5 : ((tk L i).q - (tk L i).p - 1) * g ≤ ((tk L i).q - (tk L i).p) * g := Int.mul_le_mul_of_nonneg_right (by omega) (by omega)
          omega
    refine fair_end hg0 hri.1 hr hri.2 ?_
    have h6 : (left * (tk L k).r / g + 1) * g ≤ ((doneP L left P O).getD k 0 - (tk L k).p + 1) * g := Int.mul_le_mul_of_nonneg_right (by omega) (by omega)
    omega
  · rw [hA, add_sum _ _ _ hidx2, add_sum _ _ _ hidx, sumN_const]
    have e : sumN (fun i => left * (tk L i).r / g) P = spentP L left g P := rfl
    rw [e, List.length_take]
    have := h.sum
    omega
theorem rounds_fair {L : List T3} {room : Int} : ∀ (f : Nat) (left : Int) (P : List Nat) (O : List Int), P.length < f → ShGood L room left P O → Fair L room (roundsP L f left P O) := by
  intro f
  induction f with
  | zero => intro left P O h; omega
  | succ f ih =>
    intro left P O hf h
    unfold roundsP
    split
    · rename_i hP
      subst hP
      exact Fair.none h
    · rename_i hP
      split
      · rename_i he
        exact Fair.done h hP he
      · rename_i hne
        have := rest_le L left (gP L P) P
        exact ih _ _ _ (by omega) (h.step hP)
theorem share_fair {L : List T3} {room : Int} (hm : ∀ t ∈ L, mayT t = true) (hr : 0 ≤ room ∧ room ≤ 32768) : Fair L room (shareP L room) := by
  unfold shareP
  split
  · rename_i h
    exact Fair.plain hm h
  · rename_i h
    have hg := ShGood.start hm hr h
    exact rounds_fair _ _ _ _ (by have := hg.inv.plen; omega) hg
end Go.Proofs.Ythannibclhidcaa
