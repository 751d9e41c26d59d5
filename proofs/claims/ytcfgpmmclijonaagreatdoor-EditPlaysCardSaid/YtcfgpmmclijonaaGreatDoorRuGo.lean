/- Layer 3: where a place stands, words, how much fits, lines: plain. -/
import Derived.Test.YtcfgpmmclijonaaGreatDoorRuRow
namespace Go.Proofs.YtcfgpmmclijonaaGreatDoor
set_option linter.unusedVariables false
set_option linter.unusedSimpArgs false
set_option maxRecDepth 100000
open Go.Lib

/-! ### the piece at a place -/
def InP (P : List (Nat × Nat)) (at_ : Int) (i : Nat) : Bool := decide ((off P i : Int) ≤ at_) && decide (at_ < (off P (i + 1) : Int))
def hix (P : List (Nat × Nat)) (at_ : Int) : Option Nat := (List.range P.length).find? (InP P at_)
theorem inP_uniq {P : List (Nat × Nat)} {a : Int} {i j : Nat} (h : InP P a i = true) (hj : j < i) : InP P a j = false := by
  unfold InP at *
  simp only [Bool.and_eq_true, decide_eq_true_eq] at h
  have := off_mono P (show j + 1 ≤ i by omega)
  rw [Bool.and_eq_false_iff]
  right
  simp only [decide_eq_false_iff_not]
  omega
theorem hix_some {P : List (Nat × Nat)} {a : Int} {i : Nat} (hi : i < P.length) (h : InP P a i = true) : hix P a = some i := by
  unfold hix
  rw [List.find?_range_eq_some]
  exact ⟨h, by simpa using hi, fun j hj => by rw [inP_uniq h hj]; rfl⟩
theorem hix_none {P : List (Nat × Nat)} {a : Int} (h : ∀ i, i < P.length → InP P a i = false) : hix P a = none := by
  unfold hix
  rw [List.find?_eq_none]
  intro i hi
  rw [h i (by simpa using hi)]
  simp
theorem hix_low {P : List (Nat × Nat)} {a : Int} (h : a < 0) : hix P a = none := hix_none fun i _ => by
  unfold InP
  rw [Bool.and_eq_false_iff]
  left
  simp
  omega
theorem hix_high {P : List (Nat × Nat)} {a : Int} (h : (sumw P : Int) ≤ a) : hix P a = none := hix_none fun i _ => by
  have := off_le_sum P (i + 1)
  unfold InP
  rw [Bool.and_eq_false_iff]
  right
  simp
  omega
theorem hix_in {P : List (Nat × Nat)} {a : Int} (h0 : 0 ≤ a) (h1 : a < (sumw P : Int)) : ∃ i, i < P.length ∧ InP P a i = true := by
  have key : ∀ k, k ≤ P.length → (∀ i, i < k → InP P a i = false) → (off P k : Int) ≤ a := by
    intro k
    induction k with
    | zero => intro _ _; rw [off_zero]; omega
    | succ k ih =>
      intro hk hn
      have h2 := ih (by omega) (fun i hi => hn i (by omega))
      have h3 := hn k (by omega)
      unfold InP at h3
      rw [Bool.and_eq_false_iff] at h3
      simp only [decide_eq_false_iff_not] at h3
      omega
  false_or_by_contra
  rename_i hc
  have := key P.length (Nat.le_refl _) (fun i hi => by
    cases h : InP P a i with
    | false => rfl
    | true => exact absurd ⟨i, hi, h⟩ hc)
  rw [off_all] at this
  omega
def nextE (P : List (Nat × Nat)) (a : Int) : Nat × Bool := match hix P a with | some i => (off P (i + 1), true) | none => (0, false)
def backE (P : List (Nat × Nat)) (a : Int) : Nat × Bool := match hix P (a - 1) with | some i => (off P i, true) | none => (0, false)
theorem off_strict {P : List (Nat × Nat)} (hp : ∀ p ∈ P, 1 ≤ p.1) {k : Nat} (hk : k < P.length) : off P k < off P (k + 1) := by
  rw [off_succ P k hk]
  have := hp _ (List.getElem_mem hk)
  omega

/-! ### words -/
section
variable (kd : Int → Nat)
def wend (P : List (Nat × Nat)) : Nat → Nat → Nat
  | 0, i => i
  | f + 1, i => if h : i + 1 < P.length then (if kd P[i + 1].2 = kd (P[i]'(by omega)).2 then wend P f (i + 1) else i) else i
def wordE (P : List (Nat × Nat)) (a : Int) : Nat × Bool := match hix P a with | some i => (off P (wend kd P P.length i + 1), true) | none => (0, false)
theorem wend_step {P : List (Nat × Nat)} {f i : Nat} (h : i + 1 < P.length) (he : kd P[i + 1].2 = kd (P[i]'(by omega)).2) : wend kd P (f + 1) i = wend kd P f (i + 1) := by
  rw [wend, dif_pos h, if_pos he]
theorem wend_stop {P : List (Nat × Nat)} {f i : Nat} (h : i + 1 < P.length) (he : kd P[i + 1].2 ≠ kd (P[i]'(by omega)).2) : wend kd P f i = i := by
  cases f with
  | zero => rfl
  | succ f => rw [wend, dif_pos h, if_neg he]
theorem wend_end {P : List (Nat × Nat)} {f i : Nat} (h : ¬ i + 1 < P.length) : wend kd P f i = i := by
  cases f with
  | zero => rfl
  | succ f => rw [wend, dif_neg h]
end

/-! ### how much fits -/
def toC (P : List (Nat × Nat)) (k : Nat) : Nat := total (P.take k)
theorem toC_zero (P : List (Nat × Nat)) : toC P 0 = 0 := by simp [toC, total]
theorem toC_succ (P : List (Nat × Nat)) (k : Nat) (h : k < P.length) : toC P (k + 1) = toC P k + wid P[k].2 := by
  unfold toC total
  rw [List.take_succ_eq_append_getElem h]
  simp only [List.map_append, List.sum_append, List.map_cons, List.map_nil, List.sum_cons, List.sum_nil, Nat.add_zero]
theorem toC_all (P : List (Nat × Nat)) : toC P P.length = total P := by simp [toC]
theorem toC_le (P : List (Nat × Nat)) (k : Nat) : toC P k ≤ 2 * P.length := by
  have h1 := total_le (P.take k)
  have h2 : (P.take k).length ≤ P.length := by rw [List.length_take]; omega
  unfold toC
  omega
/-- The first piece that does not fit, or their number. -/
def fit (P : List (Nat × Nat)) (c : Int) : Nat := ((List.range P.length).find? (fun k => decide (c < (toC P (k + 1) : Int)))).getD P.length
theorem fit_at {P : List (Nat × Nat)} {c : Int} {k : Nat} (hk : k < P.length) (h : c < (toC P (k + 1) : Int)) (hn : ∀ j, j < k → ¬ (c < (toC P (j + 1) : Int))) : fit P c = k := by
  unfold fit
  have : (List.range P.length).find? (fun k => decide (c < (toC P (k + 1) : Int))) = some k := by
    rw [List.find?_range_eq_some]
    exact ⟨decide_eq_true h, by simpa using hk, fun j hj => by rw [decide_eq_false (hn j hj)]; rfl⟩
  rw [this]
  rfl
theorem fit_all {P : List (Nat × Nat)} {c : Int} (hn : ∀ j, j < P.length → ¬ (c < (toC P (j + 1) : Int))) : fit P c = P.length := by
  unfold fit
  have : (List.range P.length).find? (fun k => decide (c < (toC P (k + 1) : Int))) = none := by
    rw [List.find?_eq_none]
    intro j hj
    rw [decide_eq_false (hn j (by simpa using hj))]
    simp
  rw [this]
  rfl
theorem fit_le (P : List (Nat × Nat)) (c : Int) : fit P c ≤ P.length := by
  unfold fit
  cases h : (List.range P.length).find? (fun k => decide (c < (toC P (k + 1) : Int))) with
  | none => exact Nat.le_refl _
  | some k =>
    have := List.mem_of_find?_eq_some h
    simp at this
    simp only [Option.getD_some]
    omega
def fits (s : ByteArray) (c : Int) : ByteArray := s.extract 0 (off (pcs s.data.toList) (fit (pcs s.data.toList) c))
/-- What Cut says. -/
def cutE (s : ByteArray) (cells : Int) (mark : ByteArray) : ByteArray × Bool :=
  let c := max cells 0
  if (total (pcs s.data.toList) : Int) ≤ c then (s, false)
  else if (total (pcs mark.data.toList) : Int) ≤ c then (fits s (c - total (pcs mark.data.toList)) ++ mark, true)
  else (fits s c, true)

/-! ### pieces of what is left -/
theorem pcs_rest : ∀ (n : Nat) (m : By) (op : Bool), m.length ≤ n → pcs (m.drop (grp op (rs m)).1) = (grp op (rs m)).2
  | _, [], op, _ => by simp [rs_nil, grp, pcs]
  | 0, b :: t, _, h => absurd h (by simp)
  | n + 1, b :: t, op, h => by
    have h1 := wd_pos (b :: t)
    have h2 := wd_le (b :: t) (by simp)
    have e := rs_cons (b :: t) (by simp)
    cases hf : op && isMark (rn (b :: t) : Int) with
    | true =>
      rw [e]
      simp only [grp, hf, if_true]
      rw [← List.drop_drop]
      exact pcs_rest n _ op (by rw [List.length_drop]; omega)
    | false =>
      have e2 : (grp op (rs (b :: t))).1 = 0 := by rw [e]; simp [grp, hf]
      rw [e2, List.drop_zero]
      unfold pcs
      rw [e]
      simp [grp, hf]
theorem pcs_tail {l : By} {n r : Nat} {t : List (Nat × Nat)} (h : pcs l = (n, r) :: t) : pcs (l.drop n) = t := by
  cases l with
  | nil => cases h
  | cons b u =>
    have e := rs_cons (b :: u) (by simp)
    have e2 : pcs (b :: u) = (wd (b :: u) + (grp (!isCtl (rn (b :: u))) (rs ((b :: u).drop (wd (b :: u))))).1, rn (b :: u)) :: (grp (!isCtl (rn (b :: u))) (rs ((b :: u).drop (wd (b :: u))))).2 := by
      unfold pcs
      rw [e]
      simp [grp]
    rw [e2] at h
    injection h with h3 h4
    injection h3 with h5 h6
    rw [← h5, ← h4, ← List.drop_drop]
    exact pcs_rest _ _ _ (Nat.le_refl _)
theorem pcs_drop : ∀ (k : Nat) (l : By), k ≤ (pcs l).length → pcs (l.drop (off (pcs l) k)) = (pcs l).drop k
  | 0, l, _ => by simp [off_zero]
  | k + 1, l, h => by
    cases hp : pcs l with
    | nil => rw [hp] at h; simp at h
    | cons p t =>
      obtain ⟨n, r⟩ := p
      have h1 := pcs_tail hp
      have h2 := pcs_drop k (l.drop n) (by rw [h1]; rw [hp] at h; simpa using h)
      rw [h1] at h2
      rw [off_cons, ← List.drop_drop, h2]
      rfl
end Go.Proofs.YtcfgpmmclijonaaGreatDoor
