/- Layer 11: the law GridLeast: plain. -/
import Derived.Test.YtjippgflempdmaaMgGrF
namespace Go.Proofs.Ytjippgflempdmaa
set_option linter.unusedVariables false
set_option linter.unusedSimpArgs false
set_option maxRecDepth 100000
open Go.RowKit
attribute [local go_sem] max_fold min_fold

theorem psum_widL {m : Nat} {S D : List Int} {gap : Int} {N : Nat} : ∀ k, k ≤ m → psum (widL m S D gap N) k = (edgeL m S D gap N).getD k 0 - (edgeL m S D gap N).getD 0 0 := by
  intro k
  induction k with
  | zero => intro _; show (0 : Int) = _; omega
  | succ k ih =>
    intro hk
    show psum (widL m S D gap N) k + (widL m S D gap N).getD k 0 = _
    rw [ih (by omega), widL_at (by omega)]
    omega
theorem tog_widL {m : Nat} {S D : List Int} {gap : Int} {N : Nat} (h : WidOk m S D gap N) {i : Nat} (hi : i < N) :
    D.getD i 0 ≤ togP (widL m S D gap N) (colP m S i).toNat (colP m S i + wideP m S i).toNat gap := by
  have hm1 : (1 : Int) ≤ m := by have := h.m1; omega
  have h1 := col_bd hm1 S i
  have h2 := wide_bd hm1 S i
  have h3 := wid_holds h hi
  unfold farP at h3
  unfold togP
  rw [psum_widL _ (by omega), psum_widL _ (by omega), show (((colP m S i + wideP m S i).toNat : Nat) : Int) - ((colP m S i).toNat : Nat) - 1 = wideP m S i - 1 by omega]
  omega
theorem psum_step {l : List Int} (h : okW l) (k : Nat) : psum l k ≤ psum l (k + 1) := psum_mono h (by omega)
/-- The least ones lie below all others in which all find room. -/
theorem least_below {m : Nat} {S D : List Int} {gap : Int} {N : Nat} (h : WidOk m S D gap N) {o : List Int} (ho : okW o) (hr : ∀ i, i < N → D.getD i 0 ≤ togP o (colP m S i).toNat (colP m S i + wideP m S i).toNat gap) {k : Nat} (hk : k ≤ m) : psum (widL m S D gap N) k ≤ psum o k := by
  have hm1 : (1 : Int) ≤ m := by have := h.m1; omega
  have hb := (edge_ok h).b
  have h0 := hb.ge 0 (by omega)
  have hle := hb.le (fun v => psum o v) (fun j hj => by
    rw [bndL_len] at hj
    unfold pn qn
    by_cases hjm : j < m
    · rw [bk_one hjm]
      simp only
      rw [show ((j : Int)).toNat = j by omega, show ((j : Int) + 1).toNat = j + 1 by omega]
      have := psum_step ho j
      omega
    · obtain ⟨i, hi⟩ : ∃ i, j = m + i := ⟨j - m, by omega⟩
      subst hi
      have hiN : i < N := by omega
      rw [bk_two hiN]
      simp only [bndP]
      have h1 := col_bd hm1 S i
      have h2 := wide_bd hm1 S i
      have h3 := hr i hiN
      unfold togP at h3
      rw [show (((colP m S i + wideP m S i).toNat : Nat) : Int) - ((colP m S i).toNat : Nat) - 1 = wideP m S i - 1 by omega] at h3
      unfold farP
      omega) (fun v _ => (psumW ho v).1) k (by omega)
  rw [psum_widL k hk]
  have : (fun v => psum o v) k = psum o k := rfl
  omega
def otherN (v : Int) : Int := v.tmod 20001 % 20001
def othL (o : List Int) (n : Nat) : List Int := (List.range n).map fun i => otherN (o.getD i 0)
theorem otherN_bd (v : Int) : 0 ≤ otherN v ∧ otherN v ≤ 20000 ∧ -20001 < v.tmod 20001 ∧ v.tmod 20001 < 20001 := by
  unfold otherN
  have h1 := Int.tmod_lt_of_pos v (show (0 : Int) < 20001 by omega)
  have h2 := Int.lt_tmod_of_pos v (show (0 : Int) < 20001 by omega)
  omega
theorem othL_ok (o : List Int) (n : Nat) : okW (othL o n) := by
  intro v hv
  unfold othL at hv
  obtain ⟨i, _, rfl⟩ := List.mem_map.1 hv
  have := otherN_bd (o.getD i 0)
  omega
theorem othL_len (o : List Int) (n : Nat) : (othL o n).length = n := by simp [othL]
theorem othL_succ (o : List Int) (n : Nat) : othL o (n + 1) = othL o n ++ [otherN (o.getD n 0)] := by simp [othL, List.range_succ]
theorem widL_okW {m : Nat} {S D : List Int} {gap : Int} {N : Nat} (h : WidOk m S D gap N) : okW (widL m S D gap N) := fun v hv => by
  have := widL_ok h v hv
  omega
theorem tog_bd {l : List Int} (h : okW l) (a b : Nat) {gap : Int} (hg : 0 ≤ gap ∧ gap ≤ 16384) (hab : a < b) (hb : b ≤ 100) : 0 ≤ togP l a b gap ∧ togP l a b gap ≤ 100000000 := by
  have h1 : 0 ≤ ((b : Int) - a - 1) * gap ∧ ((b : Int) - a - 1) * gap ≤ 16777216 := by
    have := gap_bd hg (n := (b : Int) - a - 1) (by omega)
    rw [Int.mul_comm] at this
    exact this
  have h2 := psumW h b
  have h3 := psumW h a
  have h4 := psum_mono h (show a ≤ b by omega)
  unfold togP
  omega
def roomP (m : Nat) (S D : List Int) (gap : Int) (o : List Int) (r0 : Bool) : Nat → Bool
  | 0 => r0
  | i + 1 => roomP m S D gap o r0 i && decide (D.getD i 0 ≤ togP o (colP m S i).toNat (colP m S i + wideP m S i).toNat gap)
theorem room_all {m : Nat} {S D : List Int} {gap : Int} {o : List Int} {r0 : Bool} : ∀ {N}, roomP m S D gap o r0 N = true → r0 = true ∧ ∀ i, i < N → D.getD i 0 ≤ togP o (colP m S i).toNat (colP m S i + wideP m S i).toNat gap := by
  intro N
  induction N with
  | zero => exact fun h => ⟨h, fun i hi => absurd hi (by omega)⟩
  | succ N ih =>
    intro h
    simp only [roomP, Bool.and_eq_true, decide_eq_true_eq] at h
    obtain ⟨h1, h2⟩ := ih h.1
    refine ⟨h1, fun i hi => ?_⟩
    by_cases e : i = N
    · subst e; exact h.2
    · exact h2 i (by omega)
theorem widE_ok {S D : List Int} {col gap : Int} (h : widE S D col gap = 0) : askE [numE 64 S, numE 16384 D, num1 64 col, num1 16384 gap] = 0 ∧ S.length = D.length ∧ cellE S col = 0 := by
  unfold widE at h
  split at h
  · rename_i h0
    split at h
    · rename_i h1
      refine ⟨h0, h1, ?_⟩
      have e1 := ask_ok h0 (numE 64 S) (by simp)
      have e2 := ask_ok h0 (num1 64 col) (by simp)
      unfold cellE
      rw [e1, e2]
      rfl
    · omega
  · rename_i h0
    exact absurd h h0
theorem wideC_eq {S : List Int} {col : Int} {i : Nat} : wideC (S.getD i 0) col = wideP (max col 1) S i := by
  unfold wideC wideP
  omega
end Go.Proofs.Ytjippgflempdmaa
