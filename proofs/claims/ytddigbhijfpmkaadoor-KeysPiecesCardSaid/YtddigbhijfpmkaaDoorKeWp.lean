/- Layer 21: plain laws of chords and of matching: which one, whether more; what is read may be. -/
import Derived.Test.YtddigbhijfpmkaaDoorKeLawB
namespace Go.Proofs.YtddigbhijfpmkaaDoor
set_option linter.unusedVariables false
set_option linter.unusedSimpArgs false
set_option maxRecDepth 100000
open Go.RowKit Go.Shelf Go.Lib
set_option maxRecDepth 100000

theorem modL_or {l : By} {md : Nat} (h : md < 8) : md ||| (modL l).1 < 8 := by
  have : (modL l).1 < 8 := by
    rcases modL_cases l with ⟨h, _⟩ | ⟨h | h | h, _⟩
    all_goals omega
  exact Nat.or_lt_two_pow (n := 3) h this
theorem parseG_may : ∀ (f md at_ : Nat) (l : By), md < 8 → (parseG f md at_ l).2.2 = 0 → mayB (parseG f md at_ l).1 = true
  | 0, md, at_, l, _, h => by
    unfold parseG at h
    exact absurd h (by simp)
  | f + 1, md, at_, l, hmd, h => by
    rw [parseG_at] at h ⊢
    split
    · rename_i hm
      rw [if_pos hm] at h
      split
      · rename_i hn
        show (decide (md ≤ 7) && nmB l) = true
        rw [hn, decide_eq_true (by omega)]
        rfl
      · rename_i hn
        rw [if_neg hn] at h
        exact absurd h (by simp)
    · rename_i hm
      rw [if_neg hm] at h
      split
      · rename_i hn
        rw [if_pos hn] at h
        exact absurd h (by simp)
      · rename_i hn
        rw [if_neg hn] at h
        exact parseG_may f _ _ _ (modL_or hmd) h
theorem parse_may {l : By} (h : (parseL l).2.2 = 0) : mayB (parseL l).1 = true := parseG_may _ _ _ _ (by decide) h
theorem chordG_may : ∀ (ps : List By) (acc : List Ky) (at_ : Nat), (∀ k ∈ acc, mayB k = true) → ∀ k ∈ (chordG acc at_ ps).1, mayB k = true
  | [], acc, at_, ha, k, hk => ha k hk
  | p :: ps, acc, at_, ha, k, hk => by
    rw [chordG_cons] at hk
    split at hk
    · simp at hk
    · split at hk
      · simp at hk
      · rename_i h
        refine chordG_may ps _ _ (fun k' hk' => ?_) k hk
        rcases List.mem_append.1 hk' with h1 | h1
        · exact ha k' h1
        · rw [List.mem_singleton.1 h1]
          exact parse_may (by omega)
theorem chord_may (l : By) : ∀ k ∈ (chordL l).1, mayB k = true := by
  unfold chordL
  split
  · intro k hk
    simp at hk
  · exact chordG_may _ _ _ (fun k hk => by simp at hk)
theorem which_spec (ks : List Ky) : ∀ (L : List By) (k : Nat), whichL ks k L = -1 ∨ ∃ j, ∃ hj : j < L.length, whichL ks k L = ((k + j : Nat) : Int) ∧ (chordL L[j]).1 = ks
  | [], k => .inl rfl
  | l :: L, k => by
    rw [which_step]
    split
    · rename_i h
      exact .inr ⟨0, by simp, rfl, h⟩
    · rcases which_spec ks L (k + 1) with h | ⟨j, hj, h1, h2⟩
      · exact .inl h
      · exact .inr ⟨j + 1, by simp; omega, by rw [h1]; congr 1; omega, h2⟩
theorem which_le (ks : List Ky) : ∀ (L : List By) (k j : Nat) (hj : j < L.length), (chordL L[j]).1 = ks → (k : Int) ≤ whichL ks k L ∧ whichL ks k L ≤ ((k + j : Nat) : Int)
  | [], k, j, hj, _ => absurd hj (by simp)
  | l :: L, k, 0, hj, h => by
    rw [which_step, if_pos (show (chordL l).1 = ks from h)]
    omega
  | l :: L, k, j + 1, hj, h => by
    rw [which_step]
    split
    · constructor
      · exact Int.le_refl _
      · omega
    · have := which_le ks L (k + 1) j (by simpa using hj) h
      omega
theorem bad_all : ∀ (L : List By), firstBad L = 0 → ∀ l ∈ L, (chordL l).2.2 = 0
  | [], _, l, hl => by cases hl
  | a :: L, h, l, hl => by
    rw [bad_step] at h
    by_cases hb : (chordL a).2.2 = 0
    · rw [if_neg (fun e => e hb)] at h
      rcases List.mem_cons.1 hl with rfl | hl
      · exact hb
      · exact bad_all L h l hl
    · rw [if_pos hb] at h
      exact absurd h hb
theorem com_take : ∀ (c : List Ky) (i : Nat), i ≤ c.length → comL c (c.take i) = i
  | c, 0, _ => by cases c <;> rfl
  | [], i + 1, h => absurd h (by simp)
  | a :: c, i + 1, h => by
    rw [List.take_succ_cons]
    unfold comL
    rw [if_pos rfl, com_take c i (by simpa using h)]
/-- On the way: the keys that have come, of chord n of those that may be. -/
theorem way {L : List By} {n i : Nat} (h256 : L.length ≤ 256) (hbad : firstBad L = 0) (hn : n < L.length) (hi : i ≤ (chordL L[n]).1.length) :
    matchL L ((chordL L[n]).1.take i) = (whichL ((chordL L[n]).1.take i) 0 L, moreB ((chordL L[n]).1.take i) L, 0) ∧
    (i < (chordL L[n]).1.length → moreB ((chordL L[n]).1.take i) L = true) := by
  have hl8 := chord_len L[n]
  have hmay := chord_may L[n]
  generalize hc : (chordL L[n]).1 = c at *
  constructor
  · unfold matchL
    rw [if_neg (by omega), if_neg (fun h => h hbad), if_neg (by rw [List.length_take]; omega), if_pos]
    rw [List.all_eq_true]
    exact fun k hk => hmay k (List.mem_of_mem_take hk)
  · intro hlt
    unfold moreB
    rw [List.any_eq_true]
    refine ⟨L[n], List.getElem_mem hn, decide_eq_true ?_⟩
    rw [hc, com_take c i hi, List.length_take]
    omega
theorem match_nil {L : List By} : (matchL L []).2.2 = 0 → L.length ≤ 256 ∧ firstBad L = 0 := by
  unfold matchL
  split
  · intro h
    exact absurd h (by decide)
  · split
    · rename_i h
      intro h2
      exact absurd h2 h
    · rename_i h1 h2
      intro _
      exact ⟨by omega, by omega⟩
end Go.Proofs.YtddigbhijfpmkaaDoor
