/- Layer 9: what the laws ask, in plain Lean. -/
import Derived.Test.YthannibclhidcaaLeFin
namespace Go.Proofs.Ythannibclhidcaa
set_option linter.unusedVariables false
set_option linter.unusedSimpArgs false
open Go.RowKit

theorem numB_iff (v : Int) : numB v = true ↔ -1099511627776 ≤ v ∧ v ≤ 1099511627776 := by simp [numB]
theorem off_iff (x : List Int) (L : List T3) (j : Nat) : offB x (bk L j) = false ↔ x.getD (pn L j) 0 + (bk L j).r ≤ x.getD (qn L j) 0 := by
  unfold offB gi pn qn
  simp
theorem keepsE_is (x : List Int) (L : List T3) : keepsE x L = 0 ∨ keepsE x L = 2 ∨ keepsE x L = 4 := by
  unfold keepsE
  split
  · simp
  · split
    · exact chkN_is _ _
    · simp
theorem keeps_fine {x : List Int} {L : List T3} (hE : keepsE x L = 0) (hK : keepsK x L = -1) : chkN x.length L = 0 ∧ sols x.length L fun v => x.getD v 0 := by
  have hc : chkN x.length L = 0 := by
    unfold keepsE at hE
    split at hE
    · omega
    · split at hE
      · exact hE
      · omega
  refine ⟨hc, ?_⟩
  unfold keepsK at hK
  rw [if_pos hE] at hK
  cases h : firstOff x L L.length with
  | some j => rw [h] at hK; simp only at hK; omega
  | none => exact fun j hj => (off_iff x L j).1 ((firstOff_none _).1 h j hj)
theorem keeps_of {x : List Int} {L : List T3} (hc : chkN x.length L = 0) (hn : ∀ v ∈ x, -1099511627776 ≤ v ∧ v ≤ 1099511627776) (hs : sols x.length L fun v => x.getD v 0) : keepsE x L = 0 ∧ keepsK x L = -1 := by
  obtain ⟨m, hm, h1, h2, hL⟩ := chkN_ok hc
  have hE : keepsE x L = 0 := by
    unfold keepsE
    rw [if_neg (by omega), if_pos (List.all_eq_true.2 fun v hv => (numB_iff v).2 (hn v hv))]
    exact hc
  refine ⟨hE, ?_⟩
  unfold keepsK
  rw [if_pos hE, (firstOff_none _).2 fun j hj => (off_iff x L j).2 (hs j hj)]

/-! Tight bounds. -/
theorem tight_mem {x : List Int} {L : List T3} {j : Nat} : ∀ i, j < i → tightB x (bk L j) = true → (j : Int) ∈ tightL x L i := by
  intro i
  induction i with
  | zero => intro h; omega
  | succ i ih =>
    intro h hb
    unfold tightL
    by_cases e : j = i
    · subst e
      rw [if_pos hb]
      simp
    · have := ih (by omega) hb
      split
      · exact List.mem_append_left _ this
      · exact this
theorem tight_in {x : List Int} {L : List T3} : ∀ i, ∀ v ∈ tightL x L i, 0 ≤ v ∧ v < (i : Int) := by
  intro i
  induction i with
  | zero => intro v h; simp [tightL] at h
  | succ i ih =>
    intro v h
    unfold tightL at h
    split at h
    · rcases List.mem_append.1 h with h | h
      · have := ih v h
        omega
      · simp at h
        omega
    · have := ih v h
      omega
theorem tight_inc {x : List Int} {L : List T3} : ∀ i, ∀ k, k + 1 < (tightL x L i).length → (tightL x L i).getD k 0 < (tightL x L i).getD (k + 1) 0 := by
  intro i
  induction i with
  | zero => intro k h; simp [tightL] at h
  | succ i ih =>
    intro k h
    have hb := tight_in (x := x) (L := L) i
    unfold tightL at h ⊢
    split
    · rename_i hc
      rw [if_pos hc] at h
      simp only [List.length_append, List.length_cons, List.length_nil] at h
      by_cases e : k + 1 < (tightL x L i).length
      · have := ih k e
        simp only [List.getD, List.getElem?_append_left e, List.getElem?_append_left (show k < (tightL x L i).length by omega)]
        exact this
      · have e2 : k + 1 = (tightL x L i).length := by omega
        have h3 := hb _ (List.getElem_mem (show k < (tightL x L i).length by omega))
        simp only [List.getD, e2, List.getElem?_append_left (show k < (tightL x L i).length by omega), List.getElem?_append_right (Nat.le_refl _)]
        simp [show k < (tightL x L i).length by omega]
        omega
    · rename_i hc
      rw [if_neg hc] at h
      exact ih k h

/-! The least numbers lie below all others. -/
theorem getD_mem9 {l : List Int} {v : Int} (h : v ∈ l) : ∃ i, i < l.length ∧ l.getD i 0 = v := by
  obtain ⟨i, hi, e⟩ := List.getElem_of_mem h
  exact ⟨i, hi, by simp [List.getD, hi, e]⟩
theorem mem_getD9 {l : List Int} {i : Nat} (h : i < l.length) : l.getD i 0 ∈ l := by
  simp [List.getD, h]
structure Below9 (n : Nat) (L : List T3) (x : List Int) : Prop where
  len : x.length = n
  ge : ∀ v, v < n → 0 ≤ x.getD v 0
  sol : sols n L fun v => x.getD v 0
  held : ∀ v, v < n → 0 < x.getD v 0 → ∃ j, j < L.length ∧ qn L j = v ∧ tightB x (bk L j) = true
  le : ∀ y : Nat → Int, sols n L y → (∀ v, v < n → 0 ≤ y v) → ∀ v, v < n → x.getD v 0 ≤ y v
theorem fin_below {n : Nat} {L : List T3} (hL : okL n L) (h : (fin n L).last = -1) : Below9 n L (fin n L).x := by
  refine ⟨(fin_len n L).1, fun v hv => (fin_bd hL hv).1, fin_sol hL h, fun v hv hp => ?_, fun y hy h0 => fin_le hy hL h0⟩
  obtain ⟨K, t, hI, _, _⟩ := fin_inv hL
  obtain ⟨j, hj, e, e2⟩ := hI.held h hv hp
  refine ⟨j, hj, e, ?_⟩
  subst e
  unfold tightB gi
  simp only [beq_iff_eq]
  show (fin n L).x.getD (qn L j) 0 - (fin n L).x.getD (pn L j) 0 = (bk L j).r
  omega
theorem solve_below {n : Int} {L : List T3} (h : solveE n L = 0) : ∃ m : Nat, n = (m : Int) ∧ m ≤ 4096 ∧ L.length ≤ 4096 ∧ okL m L ∧ Below9 m L (solveR n L) := by
  obtain ⟨h1, h2⟩ := solveE_ok h
  obtain ⟨m, hm, h3, h4, hL⟩ := chkN_ok h1
  subst hm
  refine ⟨m, rfl, h3, h4, hL, ?_⟩
  unfold solveR
  rw [if_pos h]
  exact fin_below hL h2
theorem solve_sol {n : Nat} {L : List T3} (hc : chkN n L = 0) {y : Nat → Int} (hy : sols n L y) : solveE n L = 0 := by
  obtain ⟨m, hm, h3, h4, hL⟩ := chkN_ok hc
  have e : m = n := by omega
  subst e
  unfold solveE
  rw [if_pos hc]
  simp only [Int.toNat_natCast]
  rw [if_pos (fin_ok hL hy)]
theorem solve_bd {n : Nat} {L : List T3} (h : solveE n L = 0) (hn : n ≤ 200) (hl : L.length ≤ 400) : ∀ v ∈ solveR n L, -1099511627776 ≤ v ∧ v ≤ 1099511627776 := by
  intro v hv
  obtain ⟨h1, h2⟩ := solveE_ok h
  obtain ⟨m, hm, h3, h4, hL⟩ := chkN_ok h1
  have e : m = n := by omega
  subst e
  unfold solveR at hv
  rw [if_pos h] at hv
  obtain ⟨i, hi, rfl⟩ := getD_mem9 hv
  simp only [Int.toNat_natCast] at hi ⊢
  rw [(fin_len _ _).1] at hi
  have := fin_bd hL hi
  have h5 : m * L.length + L.length ≤ 200 * 400 + 400 := Nat.add_le_add (Nat.mul_le_mul hn hl) hl
  have h6 : ((m * L.length + L.length : Nat) : Int) * 1048576 ≤ ((200 * 400 + 400 : Nat) : Int) * 1048576 := Int.mul_le_mul_of_nonneg_right (by omega) (by omega)
  omega

/-! The greatest numbers. -/
theorem topE_ok {n : Int} {L : List T3} {most : Int} (h : topE n L most = 0) : ∃ m : Nat, n = (m : Int) ∧ m ≤ 4096 ∧ L.length ≤ 4096 ∧ okL m L ∧ chkN n L = 0 ∧ (0 ≤ most ∧ most ≤ 1099511627776) ∧ (fin m L).last = -1 ∧ topR n L most = topL m L most ∧ ∀ v ∈ topL m L most, 0 ≤ v := by
  have hR : topR n L most = topL n.toNat L most := by
    unfold topR
    rw [if_pos h]
  unfold topE at h
  split at h
  · rename_i h1
    obtain ⟨m, hm, h3, h4, hL⟩ := chkN_ok h1
    subst hm
    simp only [Int.toNat_natCast] at h hR
    split at h
    · rename_i h2
      split at h
      · rename_i h5
        split at h
        · rename_i h6
          refine ⟨m, rfl, h3, h4, hL, h1, by simpa [topOk] using h2, h5, hR, fun v hv => ?_⟩
          simpa using List.all_eq_true.1 h6 v hv
        · omega
      · omega
    · omega
  · rename_i h1
    exact absurd h h1
theorem topL_at {m : Nat} {L : List T3} {most : Int} {v : Nat} (hv : v < m) : (topL m L most).getD v 0 = most - (fin m (turnL L)).x.getD v 0 := by
  have := (fin_len m (turnL L)).1
  simp [topL, List.getD, show v < (fin m (turnL L)).x.length by omega]
theorem topL_len (m : Nat) (L : List T3) (most : Int) : (topL m L most).length = m := by
  simp [topL, (fin_len m (turnL L)).1]
structure Most9 (n : Nat) (L : List T3) (most : Int) (y : List Int) : Prop where
  len : y.length = n
  ge : ∀ v, v < n → 0 ≤ y.getD v 0
  le : ∀ v, v < n → y.getD v 0 ≤ most
  sol : sols n L fun v => y.getD v 0
  up : ∀ z : Nat → Int, sols n L z → (∀ v, v < n → z v ≤ most) → ∀ v, v < n → z v ≤ y.getD v 0
theorem top_sol {m : Nat} {L : List T3} (hL : okL m L) (h : (fin m L).last = -1) (most : Int) : (∀ v, v < m → (topL m L most).getD v 0 ≤ most) ∧ sols m L (fun v => (topL m L most).getD v 0) ∧ ∀ z : Nat → Int, sols m L z → (∀ v, v < m → z v ≤ most) → ∀ v, v < m → z v ≤ (topL m L most).getD v 0 := by
  have hT := fin_below (okL_turn hL) (fin_turn_ok hL h)
  refine ⟨fun v hv => ?_, fun j hj => ?_, fun z hz hm v hv => ?_⟩
  · rw [topL_at hv]
    have := hT.ge v hv
    omega
  · obtain ⟨hp, hq, _, _⟩ := okB_pq hL hj
    (try simp only)
    rw [topL_at hp, topL_at hq]
    have := hT.sol j (by rw [turnL_len]; exact hj)
    simp only [pn_turn, qn_turn, bk_turn] at this
    unfold turn at this
    simp only at this
    omega
  · rw [topL_at hv]
    have := hT.le (fun v => most - z v) (sols_turn hz most) (fun v hv => by have := hm v hv; omega) v hv
    omega
theorem top_is {n : Int} {L : List T3} {most : Int} (h : topE n L most = 0) : ∃ m : Nat, n = (m : Int) ∧ chkN n L = 0 ∧ solveE n L = 0 ∧ (0 ≤ most ∧ most ≤ 1099511627776) ∧ Most9 m L most (topR n L most) := by
  obtain ⟨m, rfl, h1, h2, hL, h3, h4, h5, h6, h7⟩ := topE_ok h
  obtain ⟨a, b, c⟩ := top_sol hL h5 most
  refine ⟨m, rfl, h3, ?_, h4, ?_⟩
  · unfold solveE
    rw [if_pos h3, if_pos (by simpa using h5)]
  · rw [h6]
    exact ⟨topL_len _ _ _, fun v hv => h7 _ (mem_getD9 (by rw [topL_len]; exact hv)), a, b, c⟩
/-- What a refusal of the greatest numbers says. -/
theorem top_no {n : Nat} {L : List T3} {most : Int} (h : topE n L most = 90) (hs : solveE n L = 0) {z : Nat → Int} (hz : sols n L z) (h0 : ∀ v, v < n → 0 ≤ z v ∧ z v ≤ most) : False := by
  obtain ⟨h1, h2⟩ := solveE_ok hs
  obtain ⟨m, hm, h3, h4, hL⟩ := chkN_ok h1
  have e : m = n := by omega
  subst e
  unfold topE at h
  simp only [Int.toNat_natCast] at h h2
  rw [if_pos h1, if_pos h2] at h
  split at h
  · split at h
    · omega
    · rename_i h6
      apply h6
      refine List.all_eq_true.2 fun v hv => ?_
      obtain ⟨i, hi, rfl⟩ := getD_mem9 hv
      rw [topL_len] at hi
      have := (top_sol hL h2 most).2.2 z hz (fun v hv => (h0 v hv).2) i hi
      have := h0 i hi
      simp only [decide_eq_true_eq]
      omega
  · omega
theorem topE_ne {n : Int} {L : List T3} {most : Int} (h : solveE n L ≠ 0) : topE n L most ≠ 0 := by
  intro h2
  obtain ⟨m, _, _, h3, _⟩ := top_is h2
  exact h h3
theorem topR_nil {n : Int} {L : List T3} {most : Int} (h : topE n L most ≠ 0) : topR n L most = [] := by
  unfold topR
  rw [if_neg h]
theorem solveR_nil {n : Int} {L : List T3} (h : solveE n L ≠ 0) : solveR n L = [] := by
  unfold solveR
  rw [if_neg h]
theorem topR_lt (n : Int) (L : List T3) (most : Int) : (topR n L most).length ≤ 4096 := by
  by_cases h : topE n L most = 0
  · obtain ⟨m, rfl, h1, _, _, _, _, _, h6, _⟩ := topE_ok h
    rw [h6, topL_len]
    exact h1
  · rw [topR_nil h]
    simp
theorem tightR_lt (n : Int) (L : List T3) : (tightR n L).length ≤ 4096 := by
  unfold tightR
  split
  · rename_i h
    obtain ⟨m, rfl, _, h4, _⟩ := solve_below h
    have := tightL_len (solveR m L) L L.length
    omega
  · simp

/-! One bound more, and turned round. -/
theorem sols_more {n : Nat} {L : List T3} {b : T3} {y : Nat → Int} (h : sols n (L ++ [b]) y) : sols n L y := by
  intro j hj
  have := h j (by simp; omega)
  have e : bk (L ++ [b]) j = bk L j := by simp [bk, List.getD, List.getElem?_append_left hj]
  unfold pn qn at this ⊢
  rw [e] at this
  exact this
theorem chk_more {n : Int} {L : List T3} {b : T3} (h : chkN n (L ++ [b]) = 0) : chkN n L = 0 := by
  unfold chkN at *
  split
  · rename_i h1
    rw [if_pos h1] at h
    omega
  · rename_i h1
    rw [if_neg h1] at h
    split at h
    · omega
    · rename_i h2
      simp only [List.length_append, List.length_cons, List.length_nil] at h2
      rw [if_neg (by omega)]
      split at h
      · rename_i h3
        unfold allB at h3 ⊢
        rw [List.all_append, Bool.and_eq_true] at h3
        rw [if_pos h3.1]
      · omega
theorem solve_more {n : Int} {L : List T3} {b : T3} (h : solveE n (L ++ [b]) = 0) : solveE n L = 0 ∧ ∀ v : Nat, (v : Int) < n → (solveR n L).getD v 0 ≤ (solveR n (L ++ [b])).getD v 0 := by
  obtain ⟨m, rfl, _, _, hL, h1⟩ := solve_below h
  have hs := sols_more h1.sol
  have h2 := solve_sol (chk_more (solveE_ok h).1) hs
  refine ⟨h2, fun v hv => ?_⟩
  obtain ⟨m2, hm, _, _, hL2, h3⟩ := solve_below h2
  have e : m2 = m := by omega
  subst e
  exact h3.le _ hs h1.ge v (by omega)
theorem solve_turn (n : Int) (L : List T3) : solveE n (turnL L) = 0 ↔ solveE n L = 0 := by
  by_cases h : chkN n L = 0
  · obtain ⟨m, rfl, _, _, hL⟩ := chkN_ok h
    unfold solveE
    rw [chkN_turn, if_pos h, if_pos h]
    simp only [Int.toNat_natCast]
    by_cases h2 : (fin m L).last = -1
    · rw [if_pos h2, if_pos (fin_turn_ok hL h2)]
    · rw [if_neg h2, if_neg (fun h3 => h2 ((fin_turn_iff hL).1 h3))]
  · unfold solveE
    rw [chkN_turn, if_neg h, if_neg h]
theorem top_turn {n : Int} {L : List T3} {most : Int} (h : topE n L most = 0) : ∀ v : Nat, (v : Int) < n → (topR n L most).getD v 0 = most - (solveR n (turnL L)).getD v 0 := by
  obtain ⟨m, rfl, h1, h2, hL, h3, h4, h5, h6, h7⟩ := topE_ok h
  intro v hv
  rw [h6, topL_at (by omega)]
  have : solveE m (turnL L) = 0 := (solve_turn m L).2 (by unfold solveE; rw [if_pos h3, if_pos (by simpa using h5)])
  unfold solveR
  rw [if_pos this]
  rfl

/-! The loop. -/
theorem sumF_rev (f : Nat → Int) : ∀ p, sumF (fun i => f (p - 1 - i)) p = sumF f p := by
  intro p
  have key : ∀ q, q ≤ p → sumF (fun i => f (p - 1 - i)) q = sumF f p - sumF f (p - q) := by
    intro q
    induction q with
    | zero => intro _; simp [sumF]
    | succ q ih =>
      intro hq
      have h1 := ih (by omega)
      have e : p - q = (p - (q + 1)) + 1 := by omega
      rw [e] at h1
      simp only [sumF] at h1 ⊢
      rw [h1, show p - 1 - q = p - (q + 1) by omega]
      omega
  have := key p (Nat.le_refl _)
  rw [this, Nat.sub_self]
  simp [sumF]
structure Loop9 (n : Nat) (L : List T3) (r : List Int) : Prop where
  pos : 0 < r.length
  le : r.length ≤ n
  nat : ∀ i, i < r.length → ∃ j : Nat, r.getD i 0 = (j : Int) ∧ j < L.length ∧ r.getD 0 0 ≤ (j : Int)
  next : ∀ i, i < r.length → qn L (r.getD i 0).toNat = pn L (r.getD ((i + 1) % r.length) 0).toNat
  inj : ∀ i j, i < j → j < r.length → pn L (r.getD i 0).toNat ≠ pn L (r.getD j 0).toNat
  sum : 0 < sumF (fun i => (bk L (r.getD i 0).toNat).r) r.length
theorem loopL_at {L : List T3} {s : St} {u p b i : Nat} (h : i < p) : (loopL L s u p b).getD i 0 = (mdB L s u (b + p - i) : Int) := by
  simp [loopL, List.getD, h]
theorem sumF_congr {f g : Nat → Int} : ∀ a, (∀ i, i < a → f i = g i) → sumF f a = sumF g a := by
  intro a
  induction a with
  | zero => intro _; rfl
  | succ a ih =>
    intro h
    simp only [sumF]
    rw [ih fun i hi => h i (by omega), h a (by omega)]
theorem loop_is {n : Nat} {L : List T3} {s : St} {t : Nat → Nat} {u p b : Nat} (hc : Cyc n L s t u p) (hb : Arg L s u p b) : Loop9 n L (loopL L s u p b) := by
  have hlen : (loopL L s u p b).length = p := by simp [loopL]
  have hlt := hb.lt
  have hz : (loopL L s u p b).getD 0 0 = (mdB L s u b : Int) := by
    rw [loopL_at hc.pos, Nat.sub_zero, hc.per]
  have hmod : ∀ a, mdB L s u a = mdB L s u (a % p) := fun a => by
    unfold mdB
    rw [← it_mod hc.back]
  refine ⟨by rw [hlen]; exact hc.pos, by rw [hlen]; exact hc.le, ?_, ?_, ?_, ?_⟩
  · rw [hlen]
    intro i hi
    refine ⟨_, loopL_at hi, (hc.md _).1.jl, ?_⟩
    rw [hz, hmod (b + p - i)]
    have := hb.le ((b + p - i) % p) (Nat.mod_lt _ (by omega))
    omega
  · rw [hlen]
    intro i hi
    have e : (loopL L s u p b).getD ((i + 1) % p) 0 = (mdB L s u (b + p - (i + 1)) : Int) := by
      by_cases h1 : i + 1 = p
      · rw [h1, Nat.mod_self, hz, show b + p - p = b by omega]
      · rw [Nat.mod_eq_of_lt (by omega), loopL_at (by omega)]
    rw [e, loopL_at hi]
    simp only [Int.toNat_natCast]
    obtain ⟨h1, h2⟩ := hc.md (b + p - i)
    obtain ⟨h3, h4⟩ := hc.md (b + p - (i + 1))
    rw [h1.qv, h4, show b + p - (i + 1) + 1 = b + p - i by omega]
  · rw [hlen]
    intro i j hij hj
    rw [loopL_at (by omega), loopL_at hj]
    simp only [Int.toNat_natCast]
    rw [(hc.md _).2, (hc.md _).2]
    have h1 := (hc.shift (b + 1)).inj (a := p - 1 - j) (b := p - 1 - i) (by omega) (by omega)
    rw [← it_add, ← it_add] at h1
    rw [show p - 1 - j + (b + 1) = b + p - j + 1 - 1 + 0 by omega] at h1
    rw [show b + p - i + 1 = (p - 1 - i + (b + 1)) + 1 by omega, show b + p - j + 1 = (b + p - j + 1 - 1 + 0) + 1 by omega]
    intro e
    have h2 := (hc.shift (b + 2)).inj (a := p - 1 - j) (b := p - 1 - i) (by omega) (by omega)
    rw [← it_add, ← it_add] at h2
    apply h2
    rw [show p - 1 - j + (b + 2) = (b + p - j + 1 - 1 + 0) + 1 by omega, show p - 1 - i + (b + 2) = (p - 1 - i + (b + 1)) + 1 by omega]
    exact e.symm
  · rw [hlen]
    have h1 := (hc.shift (b + 1)).sum
    rw [← sumF_rev] at h1
    rw [sumF_congr (g := fun i => (bk L (mdB L s (itB L s (b + 1) u) (p - 1 - i))).r) p fun i hi => ?_]
    · exact h1
    · rw [loopL_at hi]
      simp only [Int.toNat_natCast]
      rw [md_add, show p - 1 - i + (b + 1) = b + p - i by omega]
theorem loop_says {n : Int} {L : List T3} {R : List Int} {E : Int} (h : LoopIs n L R E) : (E ≠ 0 ∧ E = solveE n L ∧ R = []) ∨ (E = 0 ∧ solveE n L = 0 ∧ R = []) ∨ (E = 0 ∧ solveE n L = 90 ∧ ∃ m : Nat, n = (m : Int) ∧ okL m L ∧ L.length ≤ 4096 ∧ Loop9 m L R) := by
  cases h with
  | bad h =>
    left
    refine ⟨h, ?_, rfl⟩
    unfold solveE
    rw [if_neg h]
  | none h hl =>
    right; left
    refine ⟨rfl, ?_, rfl⟩
    unfold solveE
    rw [if_pos h, if_pos hl]
  | some h v p b t hv hl hh hc hb =>
    right; right
    obtain ⟨m, rfl, _, h4, hL⟩ := chkN_ok h
    refine ⟨rfl, ?_, m, rfl, hL, h4, ?_⟩
    · unfold solveE
      rw [if_pos h, if_neg (by rw [hl]; omega)]
    · exact loop_is hc hb
end Go.Proofs.Ythannibclhidcaa
