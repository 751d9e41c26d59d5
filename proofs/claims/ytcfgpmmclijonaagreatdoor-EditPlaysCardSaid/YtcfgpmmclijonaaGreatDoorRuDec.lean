/- Layer 3: what a rune's bytes say alone: prefixes, joins; cells of a text as a sum over its runes. Plain. -/
import Derived.Test.YtcfgpmmclijonaaGreatDoorRuGo
import Derived.Lib.MapLaws
import Derived.Lib.ValidLaws
namespace Go.Proofs.YtcfgpmmclijonaaGreatDoor
set_option linter.unusedVariables false
set_option linter.unusedSimpArgs false
set_option maxRecDepth 100000
open Go.Lib

/-! ### one rune -/
theorem dn1 {n b0 b1 b2 b3 : Nat} (h : b0 < 128) : decodeN n b0 b1 b2 b3 = (b0, 1) := by unfold decodeN; rw [if_pos h]
theorem dn2 {n b0 b1 b2 b3 : Nat} (h0 : b0 / 32 = 6) (hn : 1 < n) (h1 : b1 / 64 = 2) (hv : 128 ≤ b0 % 32 * 64 + b1 % 64) : decodeN n b0 b1 b2 b3 = (b0 % 32 * 64 + b1 % 64, 2) := by
  unfold decodeN
  rw [if_neg (by omega), if_pos ⟨h0, hn, h1⟩, if_pos hv]
theorem dn3 {n b0 b1 b2 b3 : Nat} (h0 : b0 / 16 = 14) (hn : 2 < n) (h1 : b1 / 64 = 2) (h2 : b2 / 64 = 2) (hv : 2048 ≤ b0 % 16 * 4096 + b1 % 64 * 64 + b2 % 64) (hs : b0 % 16 * 4096 + b1 % 64 * 64 + b2 % 64 < 55296 ∨ 57344 ≤ b0 % 16 * 4096 + b1 % 64 * 64 + b2 % 64) :
    decodeN n b0 b1 b2 b3 = (b0 % 16 * 4096 + b1 % 64 * 64 + b2 % 64, 3) := by
  unfold decodeN
  rw [if_neg (by omega), if_neg (by omega), if_pos ⟨h0, ⟨by omega, h1⟩, hn, h2⟩, if_pos ⟨hv, by omega⟩]
theorem dn4 {n b0 b1 b2 b3 : Nat} (h0 : b0 / 8 = 30) (hn : 3 < n) (h1 : b1 / 64 = 2) (h2 : b2 / 64 = 2) (h3 : b3 / 64 = 2) (hv : 65536 ≤ b0 % 8 * 262144 + b1 % 64 * 4096 + b2 % 64 * 64 + b3 % 64) (hs : b0 % 8 * 262144 + b1 % 64 * 4096 + b2 % 64 * 64 + b3 % 64 ≤ 1114111) :
    decodeN n b0 b1 b2 b3 = (b0 % 8 * 262144 + b1 % 64 * 4096 + b2 % 64 * 64 + b3 % 64, 4) := by
  unfold decodeN
  rw [if_neg (by omega), if_neg (by omega), if_neg (by omega), if_pos ⟨h0, ⟨by omega, h1⟩, ⟨by omega, h2⟩, hn, h3⟩, if_pos ⟨hv, by omega⟩]
def Brk (l : By) : Prop := decodeL l = (65533, 1)
theorem getD_pre {l t : By} {n i : Nat} (hn : n ≤ l.length) (hi : i < n) : (l.take n ++ t).getD i 0 = l.getD i 0 := by
  rw [List.getD_eq_getElem?_getD, List.getD_eq_getElem?_getD, List.getElem?_append_left (by rw [List.length_take]; omega), List.getElem?_take, if_pos hi]
/-- A rune that is not broken hangs on its own bytes alone; those behind its first are continuations. -/
theorem dec_pre {l : By} (hl : l ≠ []) (hb : ¬ Brk l) (t : By) : decodeL (l.take (wd l) ++ t) = decodeL l := by
  have hw := wd_le l hl
  have hg := fun i (h : i < wd l) => getD_pre (t := t) hw h
  have hm : wd l ≤ (l.take (wd l) ++ t).length := by rw [List.length_append, List.length_take]; omega
  generalize hM : l.take (wd l) ++ t = m at *
  clear hM
  unfold Brk at hb
  unfold wd at hw hg hm
  rw [decodeL_eq l] at hb hw hg hm ⊢
  rw [decodeL_eq m]
  rcases decodeN_shape l.length (l.getD 0 0).toNat (l.getD 1 0).toNat (l.getD 2 0).toNat (l.getD 3 0).toNat with ⟨c, e⟩ | ⟨c1, c2, c3, cv, e⟩ | ⟨c1, c2, c3, c4, cv, cs, e⟩ | ⟨c1, c2, c3, c4, c5, cv, cw, e⟩ | e
  · rw [e] at hg hm ⊢
    have g0 := hg 0 (by simp)
    rw [g0]
    exact dn1 c
  · rw [e] at hg hm ⊢
    have g0 := hg 0 (by simp)
    have g1 := hg 1 (by simp)
    rw [g0, g1]
    exact dn2 c1 hm c3 cv
  · rw [e] at hg hm ⊢
    have g0 := hg 0 (by simp)
    have g1 := hg 1 (by simp)
    have g2 := hg 2 (by simp)
    rw [g0, g1, g2]
    exact dn3 c1 hm c3 c4 cv cs
  · rw [e] at hg hm ⊢
    have g0 := hg 0 (by simp)
    have g1 := hg 1 (by simp)
    have g2 := hg 2 (by simp)
    have g3 := hg 3 (by simp)
    rw [g0, g1, g2, g3]
    exact dn4 c1 hm c3 c4 c5 cv cw
  · exact absurd e hb
theorem dec_cont {l : By} (hb : ¬ Brk l) {i : Nat} (h1 : 1 ≤ i) (h2 : i < wd l) : (l.getD i 0).toNat / 64 = 2 := by
  unfold Brk at hb
  unfold wd at h2
  rw [decodeL_eq l] at hb h2
  rcases decodeN_shape l.length (l.getD 0 0).toNat (l.getD 1 0).toNat (l.getD 2 0).toNat (l.getD 3 0).toNat with ⟨c, e⟩ | ⟨c1, c2, c3, cv, e⟩ | ⟨c1, c2, c3, c4, cv, cs, e⟩ | ⟨c1, c2, c3, c4, c5, cv, cw, e⟩ | e
  · rw [e] at h2
    simp only at h2
    omega
  · rw [e] at h2
    simp only at h2
    obtain rfl : i = 1 := by omega
    exact c3
  · rw [e] at h2
    simp only at h2
    rcases (show i = 1 ∨ i = 2 by omega) with rfl | rfl
    · exact c3
    · exact c4
  · rw [e] at h2
    simp only at h2
    rcases (show i = 1 ∨ i = 2 ∨ i = 3 by omega) with rfl | rfl | rfl
    · exact c3
    · exact c4
    · exact c5
  · exact absurd e hb
theorem brk_wd {l : By} (h : Brk l) : wd l = 1 := by unfold Brk at h; unfold wd; rw [h]
theorem brk_rn {l : By} (h : Brk l) : rn l = 65533 := by unfold Brk at h; unfold rn; rw [h]
theorem dec_trunc {l : By} {k : Nat} (hk : 1 ≤ k) (hl : l ≠ []) (hb : Brk l) : Brk (l.take k) := by
  false_or_by_contra
  rename_i hn
  have hm : l.take k ≠ [] := by
    cases l with
    | nil => exact absurd rfl hl
    | cons b t => cases k with
      | zero => omega
      | succ k => simp
  have h := dec_pre hm hn ((l.take k).drop (wd (l.take k)) ++ l.drop k)
  rw [← List.append_assoc, List.take_append_drop, List.take_append_drop] at h
  unfold Brk at hn hb
  rw [← h] at hn
  exact hn hb
theorem cont_brk {l : By} (h : (l.getD 0 0).toNat / 64 = 2) : Brk l := by
  unfold Brk
  rw [decodeL_eq]
  exact decodeN_bad _ _ _ _ _ (.inl (by omega))
theorem ascii_dec {b : UInt8} (v : By) (h : b.toNat < 128) : decodeL (b :: v) = (b.toNat, 1) := by
  rw [decodeL_eq]
  exact dn1 h

/-! ### cells of a text: a sum over its runes -/
def twL (xs : List (Nat × Nat)) : Nat := (xs.map fun p => wid p.2).sum
def tw (l : By) : Nat := twL (rs l)
theorem tw_nil : tw [] = 0 := rfl
theorem tw_cons {l : By} (h : l ≠ []) : tw l = wid (rn l) + tw (l.drop (wd l)) := by
  unfold tw
  rw [rs_cons l h]
  simp [twL]
theorem spM_ok : ∀ p ∈ spM, p.2 < 55296 ∨ (57344 ≤ p.1 ∧ p.2 ≤ 1114111) := by decide
theorem mark_wid {r : Nat} (h : isMark (r : Int) = true) : wid (r : Int) = 0 := by
  have hok : okRune (r : Int) = true := by
    unfold isMark inSp at h
    rw [List.any_eq_true] at h
    obtain ⟨p, hp, h⟩ := h
    simp only [Bool.and_eq_true, decide_eq_true_eq] at h
    have := spM_ok p hp
    unfold okRune
    simp only [Bool.or_eq_true, Bool.and_eq_true, decide_eq_true_eq]
    omega
  unfold wid
  rw [if_pos hok, h, Bool.or_true, if_pos rfl]
theorem ctl_wid {r : Int} (h : isCtl r = true) : wid r = 0 := by
  have hok : okRune r = true := by
    unfold isCtl at h
    simp only [Bool.or_eq_true, Bool.and_eq_true, decide_eq_true_eq] at h
    unfold okRune
    simp only [Bool.or_eq_true, Bool.and_eq_true, decide_eq_true_eq]
    omega
  unfold wid
  rw [if_pos hok, h, Bool.true_or, if_pos rfl]
/-- Where a piece begins a rune begins; the cells ahead of it are those of the pieces ahead of it. -/
theorem grp_cut : ∀ (xs : List (Nat × Nat)) (op : Bool) (k : Nat), k ≤ (grp op xs).2.length → ∃ j, j ≤ xs.length ∧ (grp op xs).1 + off (grp op xs).2 k = sumw (xs.take j) ∧ twL (xs.take j) = toC (grp op xs).2 k
  | [], op, k, h => by
    have h0 : k = 0 := by simpa [grp] using h
    subst h0
    exact ⟨0, by simp, by simp [grp, off, sumw], by simp [twL, toC, total]⟩
  | (n, r) :: xs, op, k, h => by
    unfold grp at h ⊢
    split
    · rename_i hc
      rw [if_pos hc] at h
      obtain ⟨j, h1, h2, h3⟩ := grp_cut xs op k h
      refine ⟨j + 1, by simp only [List.length_cons]; omega, ?_, ?_⟩
      · simp only [List.take_succ_cons]
        rw [show sumw ((n, r) :: xs.take j) = n + sumw (xs.take j) by simp [sumw], ← h2]
        omega
      · simp only [List.take_succ_cons]
        rw [show twL ((n, r) :: xs.take j) = wid r + twL (xs.take j) by simp [twL], h3]
        simp only [Bool.and_eq_true] at hc
        rw [mark_wid hc.2]
        omega
    · rename_i hc
      rw [if_neg hc] at h
      cases k with
      | zero => exact ⟨0, by omega, by simp [off, sumw], by simp [twL, toC, total]⟩
      | succ k =>
        obtain ⟨j, h1, h2, h3⟩ := grp_cut xs (!isCtl r) k (by simpa using h)
        refine ⟨j + 1, by simp only [List.length_cons]; omega, ?_, ?_⟩
        · simp only [List.take_succ_cons]
          rw [show sumw ((n, r) :: xs.take j) = n + sumw (xs.take j) by simp [sumw], ← h2, off_cons]
          simp only
          omega
        · simp only [List.take_succ_cons]
          rw [show twL ((n, r) :: xs.take j) = wid r + twL (xs.take j) by simp [twL], h3]
          simp [toC, total]
theorem total_tw (l : By) : total (pcs l) = tw l := by
  have key : ∀ (xs : List (Nat × Nat)) (op : Bool), total (grp op xs).2 = twL xs := by
    intro xs
    induction xs with
    | nil => intro op; rfl
    | cons p xs ih =>
      obtain ⟨n, r⟩ := p
      intro op
      unfold grp
      split
      · rename_i hc
        simp only [Bool.and_eq_true] at hc
        rw [show twL ((n, r) :: xs) = wid r + twL xs by simp [twL], mark_wid hc.2, ih op]
        omega
      · rw [show twL ((n, r) :: xs) = wid r + twL xs by simp [twL], ← ih (!isCtl r)]
        simp [total]
  exact key _ _
theorem tw_cut : ∀ (j : Nat) (l : By), j ≤ (rs l).length → tw (l.take (sumw ((rs l).take j))) = twL ((rs l).take j) ∧ tw (l.drop (sumw ((rs l).take j))) = twL ((rs l).drop j)
  | 0, l, _ => ⟨by simp [sumw, twL, tw_nil], by simp [sumw]; rfl⟩
  | j + 1, l, h => by
    by_cases hl : l = []
    · subst hl
      simp [rs_nil] at h
    · have hc := rs_cons l hl
      rw [hc] at h ⊢
      have h2 := tw_cut j (l.drop (wd l)) (by simpa using h)
      have hw := wd_pos l
      have hwl := wd_le l hl
      simp only [List.take_succ_cons, List.drop_succ_cons]
      rw [show sumw ((wd l, rn l) :: (rs (l.drop (wd l))).take j) = wd l + sumw ((rs (l.drop (wd l))).take j) by simp [sumw], show twL ((wd l, rn l) :: (rs (l.drop (wd l))).take j) = wid (rn l) + twL ((rs (l.drop (wd l))).take j) by simp [twL]]
      generalize sumw ((rs (l.drop (wd l))).take j) = m at *
      refine ⟨?_, by rw [← List.drop_drop]; exact h2.2⟩
      have e : l.take (wd l + m) = l.take (wd l) ++ (l.drop (wd l)).take m := List.take_add ..
      have hd : decodeL (l.take (wd l + m)) = decodeL l := by
        by_cases hb : Brk l
        · have := dec_trunc (k := wd l + m) (by omega) hl hb
          unfold Brk at this hb
          rw [this, hb]
        · rw [e]
          exact dec_pre hl hb _
      have hne : l.take (wd l + m) ≠ [] := by
        intro he
        have := congrArg List.length he
        rw [List.length_take, List.length_nil] at this
        omega
      rw [tw_cons hne]
      have e1 : rn (l.take (wd l + m)) = rn l := congrArg Prod.fst hd
      have e2 : wd (l.take (wd l + m)) = wd l := congrArg Prod.snd hd
      rw [e1, e2, ← h2.1, e, List.drop_append_of_le_length (by rw [List.length_take]; omega), List.drop_eq_nil_of_le (by rw [List.length_take]; omega), List.nil_append]
theorem tw_piece (s : By) {k : Nat} (hk : k ≤ (pcs s).length) : tw (s.take (off (pcs s) k)) = toC (pcs s) k ∧ tw (s.take (off (pcs s) k)) + tw (s.drop (off (pcs s) k)) = tw s := by
  obtain ⟨j, h1, h2, h3⟩ := grp_cut (rs s) false k hk
  rw [grp_false, Nat.zero_add] at h2
  change off (pcs s) k = _ at h2
  have h4 := tw_cut j s h1
  rw [h2]
  refine ⟨by rw [h4.1]; exact h3, ?_⟩
  rw [h4.1, h4.2]
  unfold tw twL
  rw [← List.sum_append, ← List.map_append, List.take_append_drop]
theorem tw_ascii (b : UInt8) (hb : b.toNat < 128) (v : By) : ∀ (n : Nat) (u : By), u.length ≤ n → tw (u ++ b :: v) = tw u + wid (b.toNat : Int) + tw v
  | n, [], _ => by
    have h := ascii_dec v hb
    rw [List.nil_append, tw_cons (by simp), tw_nil]
    have e1 : rn (b :: v) = b.toNat := by unfold rn; rw [h]
    have e2 : wd (b :: v) = 1 := by unfold wd; rw [h]
    rw [e1, e2]
    simp
  | 0, a :: u, h => absurd h (by simp)
  | n + 1, a :: u, h => by
    obtain ⟨l, hl⟩ : ∃ l, a :: u = l := ⟨_, rfl⟩
    have hne : l ≠ [] := by rw [← hl]; simp
    rw [hl] at h ⊢
    have hw := wd_pos l
    have hwl := wd_le l hne
    have hd : decodeL (l ++ b :: v) = decodeL l := by
      by_cases hk : Brk l
      · false_or_by_contra
        rename_i hc
        unfold Brk at hk
        rw [hk] at hc
        have hnb : ¬ Brk (l ++ b :: v) := hc
        have hne2 : l ++ b :: v ≠ [] := by simp
        by_cases hlen : wd (l ++ b :: v) ≤ l.length
        · have := dec_pre hne2 hnb (l.drop (wd (l ++ b :: v)))
          rw [List.take_append_of_le_length hlen, List.take_append_drop] at this
          rw [← this, hk] at hc
          exact hc rfl
        · have := dec_cont hnb (i := l.length) (by have := List.length_pos_iff.2 hne; omega) (by omega)
          rw [List.getD_eq_getElem?_getD, List.getElem?_append_right (Nat.le_refl _)] at this
          simp at this
          omega
      · have := dec_pre hne hk (l.drop (wd l) ++ b :: v)
        rw [← List.append_assoc, List.take_append_drop] at this
        exact this
    rw [tw_cons (l := l ++ b :: v) (by simp), tw_cons hne]
    have e1 : rn (l ++ b :: v) = rn l := by unfold rn; rw [hd]
    have e2 : wd (l ++ b :: v) = wd l := by unfold wd; rw [hd]
    rw [e1, e2, List.drop_append_of_le_length hwl, tw_ascii b hb v n (l.drop (wd l)) (by rw [List.length_drop]; omega)]
    omega
theorem wid_bad : wid (65533 : Int) = 1 := by decide
/-- Bytes that go on are broken each. -/
theorem tw_conts : ∀ (m : Nat) (b : By), m ≤ b.length → (∀ i, i < m → (b.getD i 0).toNat / 64 = 2) → tw b = m + tw (b.drop m)
  | 0, b, _, _ => by simp
  | m + 1, b, h, hc => by
    have hne : b ≠ [] := by intro e; subst e; simp at h
    have hb := cont_brk (hc 0 (by omega))
    have ih := tw_conts m (b.drop 1) (by rw [List.length_drop]; omega) (fun i hi => by
      have := hc (i + 1) (by omega)
      rw [List.getD_eq_getElem?_getD, List.getElem?_drop, ← List.getD_eq_getElem?_getD, Nat.add_comm]
      exact this)
    rw [tw_cons hne, brk_wd hb, brk_rn hb, ih, List.drop_drop, show ((65533 : Nat) : Int) = 65533 by rfl, wid_bad, Nat.add_comm m 1]
    omega
theorem tw_sub : ∀ (n : Nat) (a b : By), a.length ≤ n → tw (a ++ b) ≤ tw a + tw b
  | n, [], b, _ => by rw [List.nil_append, tw_nil]; omega
  | 0, x :: a, b, h => absurd h (by simp)
  | n + 1, x :: a, b, h => by
    obtain ⟨l, hl⟩ : ∃ l, x :: a = l := ⟨_, rfl⟩
    have hne : l ≠ [] := by rw [← hl]; simp
    rw [hl] at h ⊢
    have hw := wd_pos l
    have hwl := wd_le l hne
    have hne2 : l ++ b ≠ [] := by simp [hne]
    by_cases hsame : decodeL (l ++ b) = decodeL l
    · rw [tw_cons hne2, tw_cons hne]
      have e1 : rn (l ++ b) = rn l := by unfold rn; rw [hsame]
      have e2 : wd (l ++ b) = wd l := by unfold wd; rw [hsame]
      rw [e1, e2, List.drop_append_of_le_length hwl]
      have := tw_sub n (l.drop (wd l)) b (by rw [List.length_drop]; omega)
      omega
    · have hk : Brk l := by
        false_or_by_contra
        rename_i hk
        have := dec_pre hne hk (l.drop (wd l) ++ b)
        rw [← List.append_assoc, List.take_append_drop] at this
        exact hsame this
      have hnb : ¬ Brk (l ++ b) := fun hb => hsame (by unfold Brk at hk hb; rw [hk, hb])
      have hlen : l.length < wd (l ++ b) := by
        false_or_by_contra
        rename_i hlen
        have := dec_pre hne2 hnb (l.drop (wd (l ++ b)))
        rw [List.take_append_of_le_length (by omega), List.take_append_drop] at this
        exact hsame this.symm
      have hwl2 := wd_le _ hne2
      rw [List.length_append] at hwl2
      have hl1 := List.length_pos_iff.2 hne
      have ha := tw_conts (l.length - 1) (l.drop 1) (by rw [List.length_drop]; omega) (fun i hi => by
        have := dec_cont hnb (i := i + 1) (by omega) (by omega)
        rw [List.getD_eq_getElem?_getD, List.getElem?_append_left (by omega), ← List.getD_eq_getElem?_getD] at this
        rw [List.getD_eq_getElem?_getD, List.getElem?_drop, ← List.getD_eq_getElem?_getD, Nat.add_comm]
        exact this)
      have hb2 := tw_conts (wd (l ++ b) - l.length) b (by omega) (fun i hi => by
        have := dec_cont hnb (i := l.length + i) (by omega) (by omega)
        rw [List.getD_eq_getElem?_getD, List.getElem?_append_right (by omega), ← List.getD_eq_getElem?_getD] at this
        rw [show l.length + i - l.length = i by omega] at this
        exact this)
      rw [tw_cons hne2, List.drop_append, List.drop_eq_nil_of_le (by omega), List.nil_append]
      rw [tw_cons hne, brk_wd hk, brk_rn hk, ha, hb2, show ((65533 : Nat) : Int) = 65533 by rfl, wid_bad]
      have hwid := wid_le (rn (l ++ b) : Int)
      omega
end Go.Proofs.YtcfgpmmclijonaaGreatDoor
