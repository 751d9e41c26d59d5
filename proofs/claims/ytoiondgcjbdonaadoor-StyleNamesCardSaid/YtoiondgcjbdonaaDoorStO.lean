/- Layer 5: the order of rules in plain Lean: it is one alone. -/
import Derived.Test.YtoiondgcjbdonaaDoorStPlain
namespace Go.Proofs.YtoiondgcjbdonaaDoor
set_option linter.unusedVariables false
set_option linter.unusedSimpArgs false
set_option maxRecDepth 100000
open Go.Sort

theorem Ok.congr {key key' : Nat → Nat} {d : Array Nat} {n : Nat} (h : Ok key d 0 n) (hk : ∀ x, x < n → key' x = key x) : Ok key' d 0 n := by
  refine ⟨fun i j h1 h2 h3 => ?_, h.2⟩
  have g1 := (h.2 d[i]!).1 (Inn.at h1 (by omega))
  have g2 := (h.2 d[j]!).1 (Inn.at (by omega) h3)
  have := h.1 i j h1 h2 h3
  unfold Rk at this ⊢
  rw [hk _ g1.2, hk _ g2.2]
  exact this
theorem ok_same {key : Nat → Nat} {d e : Array Nat} {n : Nat} (h : Ok key d 0 n) (hd : d.size = n) (h' : Ok key e 0 n) (he : e.size = n) : d = e := by
  apply Array.ext
  · omega
  · intro k hk1 hk2
    have hkn : k < n := by omega
    have g := (h.2 d[k]!).1 (Inn.at (Nat.zero_le _) hkn)
    obtain ⟨q, _, hq, hqe⟩ := (h'.2 d[k]!).2 g
    have r1 := rank_at h hd.symm k hkn
    have r2 := rank_at h' he.symm q hq
    rw [hqe] at r2
    have : q = k := by omega
    subst this
    rw [← getElem!_pos d q hk1, ← getElem!_pos e q hk2]
    exact hqe.symm

def ordLe (key : Nat → Nat) (i j : Nat) : Bool := decide (key i < key j ∨ (key i = key j ∧ i ≤ j))
/-- The numbers below n, the weakest first. -/
def ordL (key : Nat → Nat) (n : Nat) : List Nat := (List.range n).mergeSort (ordLe key)
theorem ordL_len (key : Nat → Nat) (n : Nat) : (ordL key n).length = n := by simp [ordL]
theorem ordL_mem (key : Nat → Nat) (n x : Nat) : x ∈ ordL key n ↔ x < n := by simp [ordL]
theorem ordL_ok (key : Nat → Nat) (n : Nat) : Ok key (ordL key n).toArray 0 n := by
  have hp := List.pairwise_mergeSort (le := ordLe key) (fun a b c h1 h2 => by simp only [ordLe, decide_eq_true_eq] at *; omega) (fun a b => by simp only [ordLe, Bool.or_eq_true, decide_eq_true_eq]; omega) (List.range n)
  have hn : (ordL key n).Nodup := (List.mergeSort_perm (List.range n) (ordLe key)).nodup_iff.2 List.nodup_range
  have hl := ordL_len key n
  rw [List.pairwise_iff_getElem] at hp
  rw [List.nodup_iff_pairwise_ne, List.pairwise_iff_getElem] at hn
  refine ⟨fun i j _ h2 h3 => ?_, fun x => ?_⟩
  · rw [getElem!_pos _ i (by simp [hl]; omega), getElem!_pos _ j (by simp [hl]; omega)]
    have h := hp i j (by show i < (ordL key n).length; omega) (by show j < (ordL key n).length; omega) h2
    have g := hn i j (by omega) (by omega) h2
    simp only [ordLe, decide_eq_true_eq] at h
    simp only [List.getElem_toArray]
    unfold Rk
    change key (ordL key n)[i] < key (ordL key n)[j] ∨ _ at h
    have h : key (ordL key n)[i] < key (ordL key n)[j] ∨ (key (ordL key n)[i] = key (ordL key n)[j] ∧ (ordL key n)[i] ≤ (ordL key n)[j]) := h
    omega
  · constructor
    · rintro ⟨i, _, hi, rfl⟩
      rw [getElem!_pos _ i (by simp [hl]; omega)]
      have := (ordL_mem key n _).1 (List.getElem_mem (l := ordL key n) (n := i) (by omega))
      simpa using this
    · intro hx
      obtain ⟨i, hi, he⟩ := List.mem_iff_getElem.1 ((ordL_mem key n x).2 hx.2)
      exact ⟨i, Nat.zero_le _, by omega, by rw [getElem!_pos _ i (by simp; omega)]; simpa using he⟩
theorem ordL_eq {key : Nat → Nat} {d : Array Nat} {n : Nat} (h : Ok key d 0 n) (hd : d.size = n) : d.toList = ordL key n := by
  rw [ok_same h hd (ordL_ok key n) (by simp [ordL_len])]
theorem ordL_of {key : Nat → Nat} {l : List Nat} {n : Nat} (h : Ok key l.toArray 0 n) (hd : l.length = n) : l = ordL key n := ordL_eq h (by simpa using hd)
theorem ordL_congr {key key' : Nat → Nat} {n : Nat} (hk : ∀ x, x < n → key' x = key x) : ordL key' n = ordL key n := by
  have := ordL_of ((ordL_ok key n).congr hk) (ordL_len key n)
  exact this.symm
theorem ordL_rank (key : Nat → Nat) {n k : Nat} (hk : k < n) : (List.range n).countP (fun j => decide (Rk key j (ordL key n)[k]!)) = k := by
  have := rank_at (ordL_ok key n) (by simp [ordL_len]) k hk
  simpa using this
theorem ordL_srt (key : Nat → Nat) {n i j : Nat} (hij : i < j) (hj : j < n) : Rk key ((ordL key n)[i]'(by rw [ordL_len]; omega)) ((ordL key n)[j]'(by rw [ordL_len]; exact hj)) := by
  have := (ordL_ok key n).1 i j (Nat.zero_le _) hij hj
  have hl := ordL_len key n
  rw [getElem!_pos _ i (by simp [hl]; omega), getElem!_pos _ j (by simp [hl]; omega)] at this
  simpa using this
theorem ordL_zero (key : Nat → Nat) : ordL key 0 = [] := by
  apply List.length_eq_zero_iff.1
  exact ordL_len key 0
theorem ordL_one (key : Nat → Nat) : ordL key 1 = [0] := by
  have hl := ordL_len key 1
  obtain ⟨x, hx⟩ := List.length_eq_one_iff.1 hl
  have := (ordL_mem key 1 x).1 (by rw [hx]; simp)
  rw [hx]
  congr 1
  omega
/-- A list whose place 'rank i' holds i is the order. -/
theorem ordL_of_rank (key : Nat → Nat) {n : Nat} {l : List Nat} (hl : l.length = n) (h : ∀ i, i < n → l[(List.range n).countP (fun j => decide (Rk key j i))]? = some i) : l = ordL key n := by
  have hl' := ordL_len key n
  apply List.ext_getElem
  · omega
  · intro k h1 h2
    have hk : k < n := by omega
    have hi := (ordL_mem key n _).1 (List.getElem_mem h2)
    have := h _ hi
    have r := ordL_rank key hk
    rw [getElem!_pos _ k h2] at r
    rw [r, List.getElem?_eq_getElem h1] at this
    exact Option.some.inj this
theorem rank_lt (key : Nat → Nat) {n i : Nat} (hi : i < n) : (List.range n).countP (fun j => decide (Rk key j i)) < n := by
  have h1 : (List.range n).countP (fun j => decide (Rk key j i)) ≤ (List.range n).countP (fun j => decide (j ≠ i)) := by
    apply List.countP_mono_left
    intro x _ hx
    simp only [decide_eq_true_eq] at *
    rintro rfl
    exact Rk.irrefl hx
  have h2 : (List.range n).countP (fun j => decide (j ≠ i)) < n := by
    have h3 := List.length_eq_countP_add_countP (fun j => decide (j ≠ i)) (l := List.range n)
    rw [List.length_range] at h3
    have h4 : 0 < (List.range n).countP (fun a => decide (¬ (decide (a ≠ i)) = true)) := List.countP_pos_iff.2 ⟨i, List.mem_range.2 hi, by simp⟩
    omega
  omega
end Go.Proofs.YtoiondgcjbdonaaDoor
