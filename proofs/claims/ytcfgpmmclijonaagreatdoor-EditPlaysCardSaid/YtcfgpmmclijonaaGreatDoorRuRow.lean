/- Layer 3: pieces as rows of cells; how both sides find them, one rune at a time; plain. -/
import Derived.Test.YtcfgpmmclijonaaGreatDoorRuPlain
import GoSem.Core.Value
namespace Go.Proofs.YtcfgpmmclijonaaGreatDoor
set_option linter.unusedVariables false
set_option linter.unusedSimpArgs false
set_option maxRecDepth 100000
open Go.Lib

def sumw (P : List (Nat × Nat)) : Nat := (P.map (·.1)).sum
theorem sumw_append (A B : List (Nat × Nat)) : sumw (A ++ B) = sumw A + sumw B := by simp [sumw]
theorem off_zero (P : List (Nat × Nat)) : off P 0 = 0 := by simp [off]
theorem off_all (P : List (Nat × Nat)) : off P P.length = sumw P := by simp [off, sumw]
theorem off_succ (P : List (Nat × Nat)) (k : Nat) (h : k < P.length) : off P (k + 1) = off P k + P[k].1 := by
  unfold off
  rw [List.take_succ_eq_append_getElem h]
  simp only [List.map_append, List.sum_append, List.map_cons, List.map_nil, List.sum_cons, List.sum_nil, Nat.add_zero]
theorem off_le_sum (P : List (Nat × Nat)) (k : Nat) : off P k ≤ sumw P := by
  have : sumw P = off P k + sumw (P.drop k) := by
    unfold off sumw
    rw [← List.sum_append, ← List.map_append, List.take_append_drop]
  omega
theorem off_mono (P : List (Nat × Nat)) {j k : Nat} (h : j ≤ k) : off P j ≤ off P k := by
  have : P.take j = (P.take k).take j := by rw [List.take_take]; congr 1; omega
  unfold off
  rw [this]
  exact off_le_sum (P.take k) j
theorem off_append (A B : List (Nat × Nat)) (k : Nat) (h : k ≤ A.length) : off (A ++ B) k = off A k := by
  unfold off
  rw [List.take_append_of_le_length h]

/-- The rows: the program's pieces, the reference's. -/
def prw : Nat → List (Nat × Nat) → List Value
  | _, [] => []
  | o, p :: xs => .int .i64 (o : Int) :: .int .i64 ((o + p.1 : Nat) : Int) :: .int .i32 (p.2 : Int) :: prw (o + p.1) xs
def qrw : Nat → List (Nat × Nat) → List Value
  | _, [] => []
  | o, p :: xs => .int .i64 (o : Int) :: .int .i64 ((o + p.1 : Nat) : Int) :: .int .i32 (p.2 : Int) :: .int .i64 (wid p.2 : Int) :: qrw (o + p.1) xs
theorem prw_len : ∀ (P : List (Nat × Nat)) (o : Nat), (prw o P).length = P.length * 3
  | [], _ => rfl
  | p :: xs, o => by simp only [prw, List.length_cons, prw_len xs]; omega
theorem qrw_len : ∀ (P : List (Nat × Nat)) (o : Nat), (qrw o P).length = P.length * 4
  | [], _ => rfl
  | p :: xs, o => by simp only [qrw, List.length_cons, qrw_len xs]; omega
theorem prw_append : ∀ (A B : List (Nat × Nat)) (o : Nat), prw o (A ++ B) = prw o A ++ prw (o + sumw A) B
  | [], _, _ => by simp [prw, sumw]
  | p :: xs, B, o => by
    simp only [prw, List.cons_append, prw_append xs B]
    rw [show o + p.1 + sumw xs = o + sumw (p :: xs) by simp [sumw]; omega]
theorem qrw_append : ∀ (A B : List (Nat × Nat)) (o : Nat), qrw o (A ++ B) = qrw o A ++ qrw (o + sumw A) B
  | [], _, _ => by simp [qrw, sumw]
  | p :: xs, B, o => by
    simp only [qrw, List.cons_append, qrw_append xs B]
    rw [show o + p.1 + sumw xs = o + sumw (p :: xs) by simp [sumw]; omega]
theorem off_cons (p : Nat × Nat) (xs : List (Nat × Nat)) (k : Nat) : off (p :: xs) (k + 1) = p.1 + off xs k := by simp [off]
theorem prw_at : ∀ (P : List (Nat × Nat)) (o k : Nat) (h : k < P.length), (prw o P)[k * 3]? = some (.int .i64 ((o + off P k : Nat) : Int)) ∧ (prw o P)[k * 3 + 1]? = some (.int .i64 ((o + off P (k + 1) : Nat) : Int)) ∧ (prw o P)[k * 3 + 2]? = some (.int .i32 (P[k].2 : Int))
  | [], _, k, h => absurd h (by simp)
  | p :: xs, o, 0, _ => by simp [prw, off]
  | p :: xs, o, k + 1, h => by
    have := prw_at xs (o + p.1) k (by simpa using h)
    rw [show (k + 1) * 3 = k * 3 + 3 by omega, off_cons, off_cons]
    simp only [prw, List.getElem_cons_succ]
    rw [show o + (p.1 + off xs k) = o + p.1 + off xs k by omega, show o + (p.1 + off xs (k + 1)) = o + p.1 + off xs (k + 1) by omega]
    exact this
theorem qrw_at : ∀ (P : List (Nat × Nat)) (o k : Nat) (h : k < P.length), (qrw o P)[k * 4]? = some (.int .i64 ((o + off P k : Nat) : Int)) ∧ (qrw o P)[k * 4 + 1]? = some (.int .i64 ((o + off P (k + 1) : Nat) : Int)) ∧ (qrw o P)[k * 4 + 2]? = some (.int .i32 (P[k].2 : Int)) ∧ (qrw o P)[k * 4 + 3]? = some (.int .i64 (wid P[k].2 : Int))
  | [], _, k, h => absurd h (by simp)
  | p :: xs, o, 0, _ => by simp [qrw, off]
  | p :: xs, o, k + 1, h => by
    have := qrw_at xs (o + p.1) k (by simpa using h)
    rw [show (k + 1) * 4 = k * 4 + 4 by omega, off_cons, off_cons]
    simp only [qrw, List.getElem_cons_succ]
    rw [show o + (p.1 + off xs k) = o + p.1 + off xs k by omega, show o + (p.1 + off xs (k + 1)) = o + p.1 + off xs (k + 1) by omega]
    exact this
theorem prw_one : ∀ (P : List (Nat × Nat)) (o : Nat), ∀ v ∈ prw o P, v.oneCell' = true
  | [], _, v, h => by cases h
  | p :: xs, o, v, h => by
    simp only [prw, List.mem_cons] at h
    rcases h with rfl | rfl | rfl | h
    · rfl
    · rfl
    · rfl
    · exact prw_one xs _ v h
theorem qrw_one : ∀ (P : List (Nat × Nat)) (o : Nat), ∀ v ∈ qrw o P, v.oneCell' = true
  | [], _, v, h => by cases h
  | p :: xs, o, v, h => by
    simp only [qrw, List.mem_cons] at h
    rcases h with rfl | rfl | rfl | rfl | h
    · rfl
    · rfl
    · rfl
    · rfl
    · exact qrw_one xs _ v h
/-- The last piece's end is turned. -/
theorem prw_set (B : List (Nat × Nat)) (n m r : Nat) : (prw 0 (B ++ [(n, r)])).set (B.length * 3 + 1) (.int .i64 ((sumw B + m : Nat) : Int)) = prw 0 (B ++ [(m, r)]) := by
  rw [prw_append, prw_append, List.set_append_right _ _ (by rw [prw_len]; omega), prw_len]
  rw [show B.length * 3 + 1 - B.length * 3 = 1 by omega]
  simp [prw]

/-! ### rune by rune: the program's way -/
def lft (s : By) (i : Nat) : By := s.drop i
theorem lft_next (s : By) (i n : Nat) : (lft s i).drop n = lft s (i + n) := by simp [lft, List.drop_drop]
/-- B's pieces and an open one of n bytes beginning with r, i bytes read. -/
def PInv (s : By) (i : Nat) (B : List (Nat × Nat)) (n r : Nat) : Prop :=
  pcs s = B ++ (n + (grp (!isCtl r) (rs (lft s i))).1, r) :: (grp (!isCtl r) (rs (lft s i))).2 ∧ sumw B + n = i ∧ i ≤ s.length
theorem lft_ne {s : By} {i : Nat} (h : i < s.length) : lft s i ≠ [] := by
  intro hn
  have := congrArg List.length hn
  simp [lft] at this
  omega
theorem lft_wd {s : By} {i : Nat} (h : i < s.length) : i + wd (lft s i) ≤ s.length := by
  have := wd_le _ (lft_ne h)
  simp only [lft, List.length_drop] at this ⊢
  omega
theorem rs_lft {s : By} {i : Nat} (h : i < s.length) : rs (lft s i) = (wd (lft s i), rn (lft s i)) :: rs (lft s (i + wd (lft s i))) := by
  rw [rs_cons _ (lft_ne h), lft_next]
theorem pinv_first {s : By} (h : 0 < s.length) : PInv s (wd (lft s 0)) [] (wd (lft s 0)) (rn (lft s 0)) := by
  refine ⟨?_, by simp [sumw], by have := lft_wd h; omega⟩
  have e := rs_lft h
  rw [Nat.zero_add] at e
  have e2 : rs s = rs (lft s 0) := by simp [lft]
  unfold pcs
  rw [e2, e]
  simp [grp]
theorem pinv_keep {s : By} {i n r : Nat} {B : List (Nat × Nat)} (h : PInv s i B n r) (hi : i < s.length) (hm : isMark (rn (lft s i)) = true) (hc : isCtl r = false) : PInv s (i + wd (lft s i)) B (n + wd (lft s i)) r := by
  obtain ⟨h1, h2, h3⟩ := h
  refine ⟨?_, by omega, lft_wd hi⟩
  rw [h1, rs_lft hi, hc]
  simp only [grp, hm, Bool.not_false, Bool.and_self, if_true]
  rw [show n + (wd (lft s i) + (grp true (rs (lft s (i + wd (lft s i))))).1) = n + wd (lft s i) + (grp true (rs (lft s (i + wd (lft s i))))).1 by omega]
theorem pinv_new {s : By} {i n r : Nat} {B : List (Nat × Nat)} (h : PInv s i B n r) (hi : i < s.length) (hm : isMark (rn (lft s i)) = false ∨ isCtl r = true) : PInv s (i + wd (lft s i)) (B ++ [(n, r)]) (wd (lft s i)) (rn (lft s i)) := by
  obtain ⟨h1, h2, h3⟩ := h
  refine ⟨?_, by rw [sumw_append]; simp [sumw] at h2 ⊢; omega, lft_wd hi⟩
  have hf : ((!isCtl (r : Int)) && isMark (rn (lft s i) : Int)) = false := by
    rcases hm with hm | hm
    · rw [hm, Bool.and_false]
    · rw [hm]; rfl
  rw [h1, rs_lft hi]
  simp only [grp, hf, if_false, Nat.add_zero, Bool.false_eq_true, List.append_assoc, List.cons_append, List.nil_append]
theorem pinv_end {s : By} {n r : Nat} {B : List (Nat × Nat)} (h : PInv s s.length B n r) : pcs s = B ++ [(n, r)] := by
  obtain ⟨h1, _, _⟩ := h
  have : lft s s.length = [] := by simp [lft]
  rw [this, rs_nil] at h1
  simpa [grp] using h1
theorem pcs_nil : pcs [] = [] := rfl

/-! ### rune by rune: the reference's way -/
def RInv (s : By) (i : Nat) (D : List (Nat × Nat)) : Prop := pcs s = D ++ (grp false (rs (lft s i))).2 ∧ sumw D = i ∧ i ≤ s.length
theorem rinv_start (s : By) : RInv s 0 [] := ⟨by simp [pcs, lft], rfl, by omega⟩
theorem rinv_open {s : By} {i : Nat} {D : List (Nat × Nat)} (h : RInv s i D) (hi : i < s.length) : PInv s (i + wd (lft s i)) D (wd (lft s i)) (rn (lft s i)) := by
  obtain ⟨h1, h2, h3⟩ := h
  refine ⟨?_, by omega, lft_wd hi⟩
  rw [h1, rs_lft hi]
  simp [grp]
theorem rinv_shut {s : By} {i n r : Nat} {B : List (Nat × Nat)} (h : PInv s i B n r) (hm : isCtl r = true ∨ i = s.length ∨ (i < s.length ∧ isMark (rn (lft s i)) = false)) : RInv s i (B ++ [(n, r)]) := by
  obtain ⟨h1, h2, h3⟩ := h
  refine ⟨?_, by rw [sumw_append]; simp [sumw] at h2 ⊢; omega, h3⟩
  rw [h1]
  by_cases hc : isCtl r = true
  · rw [hc]
    simp [grp_false]
  · rcases hm with hm | rfl | ⟨hi, hm⟩
    · exact absurd hm hc
    · have : lft s s.length = [] := by simp [lft]
      rw [this]
      simp [rs_nil, grp]
    · rw [rs_lft hi]
      simp [grp, hm]
theorem rinv_end {s : By} {D : List (Nat × Nat)} (h : RInv s s.length D) : pcs s = D := by
  obtain ⟨h1, _, _⟩ := h
  have : lft s s.length = [] := by simp [lft]
  rw [this, rs_nil] at h1
  simpa [grp] using h1

/-- Every piece has a byte. -/
theorem rs_pos : ∀ (n : Nat) (l : By), l.length ≤ n → ∀ p ∈ rs l, 1 ≤ p.1
  | 0, [], _, p, h => by cases h
  | 0, b :: t, h, _, _ => absurd h (by simp)
  | n + 1, [], _, p, h => by cases h
  | n + 1, b :: t, h, p, hp => by
    have := wd_pos (b :: t)
    have h2 := wd_le (b :: t) (by simp)
    rw [rs_cons _ (by simp)] at hp
    rcases List.mem_cons.1 hp with rfl | hp
    · exact wd_pos _
    · exact rs_pos n _ (by rw [List.length_drop]; omega) p hp
theorem grp_pos : ∀ (xs : List (Nat × Nat)) (op : Bool), (∀ p ∈ xs, 1 ≤ p.1) → ∀ p ∈ (grp op xs).2, 1 ≤ p.1
  | [], _, _, p, h => by cases h
  | x :: xs, op, hx, p, hp => by
    unfold grp at hp
    split at hp
    · exact grp_pos xs op (fun q hq => hx q (.tail _ hq)) p hp
    · rcases List.mem_cons.1 hp with rfl | hp
      · have := hx x (.head _)
        simp only
        omega
      · exact grp_pos xs _ (fun q hq => hx q (.tail _ hq)) p hp
theorem pcs_pos (l : By) : ∀ p ∈ pcs l, 1 ≤ p.1 := grp_pos _ _ (rs_pos _ l (Nat.le_refl _))
theorem rs_rune : ∀ (n : Nat) (l : By), l.length ≤ n → ∀ p ∈ rs l, p.2 ≤ 1114111
  | 0, [], _, p, h => by cases h
  | 0, b :: t, h, _, _ => absurd h (by simp)
  | n + 1, [], _, p, h => by cases h
  | n + 1, b :: t, h, p, hp => by
    have := wd_pos (b :: t)
    have h2 := wd_le (b :: t) (by simp)
    rw [rs_cons _ (by simp)] at hp
    rcases List.mem_cons.1 hp with rfl | hp
    · exact rn_le _
    · exact rs_rune n _ (by rw [List.length_drop]; omega) p hp
theorem grp_rune : ∀ (xs : List (Nat × Nat)) (op : Bool), (∀ p ∈ xs, p.2 ≤ 1114111) → ∀ p ∈ (grp op xs).2, p.2 ≤ 1114111
  | [], _, _, p, h => by cases h
  | x :: xs, op, hx, p, hp => by
    unfold grp at hp
    split at hp
    · exact grp_rune xs op (fun q hq => hx q (.tail _ hq)) p hp
    · rcases List.mem_cons.1 hp with rfl | hp
      · exact hx x (.head _)
      · exact grp_rune xs _ (fun q hq => hx q (.tail _ hq)) p hp
theorem pcs_rune (l : By) : ∀ p ∈ pcs l, p.2 ≤ 1114111 := grp_rune _ _ (rs_rune _ l (Nat.le_refl _))
end Go.Proofs.YtcfgpmmclijonaaGreatDoor
