/- Layer 3: lines in plain Lean: paragraphs, the first line of a text, all lines. -/
import Derived.Test.YtoelmcmdiamnnaaDoorRuGo
import Derived.Lib.Split
namespace Go.Proofs.YtoelmcmdiamnnaaDoor
set_option linter.unusedVariables false
set_option linter.unusedSimpArgs false
set_option maxRecDepth 100000
open Go.Lib

/-! ### paragraphs: parted by line ends -/
def spl : List UInt8 → List (List UInt8)
  | [] => [[]]
  | c :: t => if c = 10 then [] :: spl t else match spl t with
    | p :: ps => (c :: p) :: ps
    | [] => [[c]]
theorem spl_cons (c : UInt8) (t : List UInt8) : spl (c :: t) = if c = 10 then [] :: spl t else match spl t with
    | p :: ps => (c :: p) :: ps
    | [] => [[c]] := rfl
theorem spl_ne (s : List UInt8) : spl s ≠ [] := by
  cases s with
  | nil => simp [spl]
  | cons c t =>
    unfold spl
    split
    · simp
    · split <;> simp
theorem index_spl (s : List UInt8) : (Lib.index s [10] = -1 → spl s = [s]) ∧ ∀ i : Nat, Lib.index s [10] = i → i < s.length ∧ spl s = s.take i :: spl (s.drop (i + 1)) := by
  induction s with
  | nil => exact ⟨fun _ => rfl, fun i hi => by simp [Lib.index] at hi⟩
  | cons c t ih =>
    have hge := Lib.index_ge t [10]
    by_cases hc : c = 10
    · subst hc
      refine ⟨fun h => by simp [Lib.index] at h, fun i hi => ?_⟩
      have h0 : Lib.index (10 :: t) [10] = 0 := by simp [Lib.index]
      rw [h0] at hi
      obtain rfl : i = 0 := by omega
      exact ⟨by simp, by simp [spl]⟩
    · have hp : ([10] : List UInt8).isPrefixOf (c :: t) = false := by
        simp [List.isPrefixOf]
        exact fun h => hc h.symm
      constructor
      · intro h
        have h1 : Lib.index t [10] = -1 := by
          unfold Lib.index at h
          rw [hp] at h
          simp only [Bool.false_eq_true, if_false] at h
          split at h
          · next g => simpa using g
          · omega
        have := ih.1 h1
        unfold spl
        rw [if_neg hc, this]
      · intro i h
        unfold Lib.index at h
        rw [hp] at h
        simp only [Bool.false_eq_true, if_false] at h
        split at h
        · omega
        · next g =>
          have g' : Lib.index t [10] ≠ -1 := by simpa using g
          cases i with
          | zero => omega
          | succ i =>
            obtain ⟨h1, h2⟩ := ih.2 i (by omega)
            refine ⟨by simp; omega, ?_⟩
            rw [spl_cons, if_neg hc, h2]
            simp
theorem split_spl : ∀ (n : Nat) (s : List UInt8), s.length ≤ n → Lib.splitK [10] 0 (Lib.count s [10]) s = spl s := by
  intro n
  induction n with
  | zero =>
    intro s hs
    have : s = [] := List.length_eq_zero_iff.1 (by omega)
    subst this
    rw [Lib.count_miss (by simp [Lib.index])]
    rfl
  | succ n ih =>
    intro s hs
    rcases Lib.index_spec s [10] with ⟨h, _⟩ | ⟨i, h, _, _, _⟩
    · rw [Lib.count_miss h, (index_spl s).1 h]; rfl
    · obtain ⟨hi, hp⟩ := (index_spl s).2 i h
      rw [Lib.count_hit (by simp) h, hp, Nat.add_comm 1]
      unfold Lib.splitK
      have hne : ¬ ((Lib.index s [10] == -1) = true) := by rw [h]; simp
      rw [if_neg hne, h]
      simp only [Int.toNat_natCast, Nat.add_zero, List.length_singleton]
      rw [ih _ (by simp; omega)]

/-! ### the first line: how many pieces -/
def lnF (c : Int) : Nat → Nat → Nat → List (Nat × Nat) → Nat
  | i, _, _, [] => i
  | i, n, bl, p :: xs => if 1 ≤ i ∧ c < ((n + wid p.2 : Nat) : Int) then (if p.2 ≠ 32 ∧ 0 < bl then bl else i) else lnF c (i + 1) (n + wid p.2) (if p.2 = 32 then i + 1 else bl) xs
theorem lnF_bounds (c : Int) : ∀ (xs : List (Nat × Nat)) (i n bl : Nat), 1 ≤ i → bl ≤ i → 1 ≤ lnF c i n bl xs ∧ lnF c i n bl xs ≤ i + xs.length
  | [], i, n, bl, h, _ => ⟨h, by simp [lnF]⟩
  | p :: xs, i, n, bl, h, hb => by
    unfold lnF
    split
    · split
      · simp only [List.length_cons]; omega
      · simp only [List.length_cons]; omega
    · have := lnF_bounds c xs (i + 1) (n + wid p.2) (if p.2 = 32 then i + 1 else bl) (by omega) (by split <;> omega)
      simp only [List.length_cons]
      omega
def line (c : Int) (P : List (Nat × Nat)) : Nat := lnF c 0 0 0 P
theorem line_cons (c : Int) (p : Nat × Nat) (xs : List (Nat × Nat)) : line c (p :: xs) = lnF c 1 (wid p.2) (if p.2 = 32 then 1 else 0) xs := by
  unfold line
  rw [lnF, if_neg (by omega)]
  simp
theorem line_bounds (c : Int) (P : List (Nat × Nat)) (h : P ≠ []) : 1 ≤ line c P ∧ line c P ≤ P.length := by
  cases P with
  | nil => exact absurd rfl h
  | cons p xs =>
    rw [line_cons]
    have := lnF_bounds c xs 1 (wid p.2) (if p.2 = 32 then 1 else 0) (by omega) (by split <;> omega)
    simp only [List.length_cons]
    omega
/-- How many bytes the first line has. -/
def cutAt (c : Int) (s : By) : Nat := off (pcs s) (line c (pcs s))
theorem pcs_ne_nil {s : By} (h : s ≠ []) : pcs s ≠ [] := by
  intro hn
  have := pcs_sum s
  rw [hn] at this
  cases s with
  | nil => exact h rfl
  | cons b t => simp at this
theorem len_le_off (P : List (Nat × Nat)) (hp : ∀ p ∈ P, 1 ≤ p.1) : ∀ k, k ≤ P.length → k ≤ off P k
  | 0, _ => Nat.zero_le _
  | k + 1, h => by
    have h1 := len_le_off P hp k (by omega)
    have h2 := off_strict hp (show k < P.length by omega)
    omega
theorem cutAt_bounds (c : Int) {s : By} (h : s ≠ []) : 1 ≤ cutAt c s ∧ cutAt c s ≤ s.length := by
  have hb := line_bounds c _ (pcs_ne_nil h)
  have h1 := len_le_off _ (pcs_pos s) _ hb.2
  have h2 := off_le_sum (pcs s) (line c (pcs s))
  have h3 : sumw (pcs s) = s.length := pcs_sum s
  unfold cutAt
  omega
/-- The lines of a text that is not empty. -/
def parF (c : Int) : Nat → By → List By
  | 0, _ => []
  | _ + 1, [] => []
  | f + 1, b :: t => (b :: t).take (cutAt c (b :: t)) :: parF c f ((b :: t).drop (cutAt c (b :: t)))
def parB (c : Int) (s : By) : List By := parF c s.length s
theorem parF_fuel (c : Int) : ∀ (f g : Nat) (s : By), s.length ≤ f → s.length ≤ g → parF c f s = parF c g s
  | 0, 0, _, _, _ => rfl
  | 0, g + 1, [], _, _ => rfl
  | 0, g + 1, b :: t, h, _ => absurd h (by simp)
  | f + 1, 0, [], _, _ => rfl
  | f + 1, 0, b :: t, _, h => absurd h (by simp)
  | f + 1, g + 1, [], _, _ => rfl
  | f + 1, g + 1, b :: t, h, h' => by
    have := cutAt_bounds c (s := b :: t) (by simp)
    unfold parF
    rw [parF_fuel c f g]
    · rw [List.length_drop]; omega
    · rw [List.length_drop]; omega
theorem parB_nil (c : Int) : parB c [] = [] := rfl
theorem parB_cons (c : Int) {s : By} (h : s ≠ []) : parB c s = s.take (cutAt c s) :: parB c (s.drop (cutAt c s)) := by
  cases s with
  | nil => exact absurd rfl h
  | cons b t =>
    have := cutAt_bounds c (s := b :: t) (by simp)
    unfold parB
    show (b :: t).take _ :: parF c t.length _ = _
    rw [parF_fuel c t.length ((b :: t).drop (cutAt c (b :: t))).length _ (by rw [List.length_drop]; simp only [List.length_cons] at *; omega) (Nat.le_refl _)]
/-- The last line: all that is left. -/
theorem parB_last (c : Int) {s : By} (h : s ≠ []) (hl : cutAt c s = s.length) : parB c s = [s] := by
  rw [parB_cons c h, hl, List.take_length, List.drop_length, parB_nil]
def parE (c : Int) (s : By) : List By := if c < 1 then [s] else if s = [] then [[]] else parB c s
theorem parE_ne (c : Int) (s : By) : parE c s ≠ [] := by
  unfold parE
  split
  · simp
  · split
    · simp
    · rename_i h
      rw [parB_cons c h]
      simp
/-- All lines, and the widest. -/
def linesE (c : Int) (s : By) : List By := (spl s).flatMap (parE c)
def cellsL (l : By) : Nat := total (pcs l)
def widest (L : List By) : Nat := L.foldl (fun m l => max m (cellsL l)) 0
theorem widest_snoc (L : List By) (l : By) : widest (L ++ [l]) = max (widest L) (cellsL l) := by simp [widest]
end Go.Proofs.YtoelmcmdiamnnaaDoor
