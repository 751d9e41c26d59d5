/- Layer 21: plain: the keys of bytes may be; in pieces, in the law's own words. -/
import Derived.Test.YtddigbhijfpmkaaDoorKeBp
namespace Go.Proofs.YtddigbhijfpmkaaDoor
set_option linter.unusedVariables false
set_option linter.unusedSimpArgs false
set_option maxRecDepth 100000
open Go.Lib
set_option maxRecDepth 100000

theorem single_all : ((List.range 256).all fun b => match singleL b with | some k => mayB k | none => true) = true := by kernel_rfl
theorem single_may {b : Nat} (hb : b < 256) {k : Ky} (h : singleL b = some k) : mayB k = true := by
  have := List.all_eq_true.1 single_all b (List.mem_range.2 hb)
  rw [h] at this
  exact this
theorem single_not {b : Nat} (h : singleL b = none) : b ≠ 32 ∧ b ≠ 43 := by
  constructor
  · rintro rfl
    exact absurd h (by decide)
  · rintro rfl
    exact absurd h (by decide)
theorem rn_high {l : By} (hb : ¬ Brk l) (h : 128 ≤ (l.getD 0 0).toNat) : 128 ≤ rn l := by
  unfold Brk at hb
  unfold rn
  rw [decodeL_eq] at hb ⊢
  rcases decodeN_shape l.length (l.getD 0 0).toNat (l.getD 1 0).toNat (l.getD 2 0).toNat (l.getD 3 0).toNat with ⟨c, e⟩ | ⟨c1, c2, c3, cv, e⟩ | ⟨c1, c2, c3, c4, cv, cs, e⟩ | ⟨c1, c2, c3, c4, c5, cv, cw, e⟩ | e
  · omega
  · rw [e]; exact cv
  · rw [e]; show 128 ≤ _; omega
  · rw [e]; show 128 ≤ _; omega
  · exact absurd e hb
theorem rune_take {l : By} (hl : l ≠ []) (hs : singleL (l.getD 0 0).toNat = none) (hb : ¬ Brk l) (hw : ¬ wid (rn l : Int) = 0) : runeOk (l.take (wd l)) = true := by
  have hwl := wd_le l hl
  have hwp := wd_pos l
  have hd := dec_pre hl hb []
  rw [List.append_nil] at hd
  have hlen : (l.take (wd l)).length = wd l := by rw [List.length_take]; omega
  have h1 : wd (l.take (wd l)) = wd l := by unfold wd at hd ⊢; rw [hd]
  have h2 : rn (l.take (wd l)) = rn l := by unfold rn; rw [hd]
  obtain ⟨n1, n2⟩ := single_not hs
  have hr : rn l ≠ 32 ∧ rn l ≠ 43 := by
    by_cases h : (l.getD 0 0).toNat < 128
    · have : rn l = (l.getD 0 0).toNat := by unfold rn; rw [wd_ascii h]
      omega
    · have := rn_high hb (by omega)
      omega
  unfold runeOk
  refine decide_eq_true ⟨fun e => ?_, by rw [h1, hlen], ?_, by rw [h2]; exact hr.1, by rw [h2]; exact hr.2, by rw [h2]; exact hw⟩
  · rw [e] at hlen
    simp at hlen
    omega
  · unfold Brk at hb ⊢
    rw [hd]
    exact hb
def OkK (k : Ky) : Prop := k.nm = [] ∨ mayB k = true
theorem ok_no : OkK noKy := .inl rfl
theorem word_may {nm : By} {md : Nat} (h : nm ∈ wordsL) (hm : md < 8) : OkK ⟨nm, md⟩ := by
  right
  unfold mayB nmB
  simp only
  rw [decide_eq_true h, decide_eq_true (by omega : md ≤ 7)]
  rfl
theorem plain_ok {l : By} (hl : l ≠ []) : OkK (plainL l).1 := by
  unfold plainL
  split
  · rename_i k h
    exact .inr (single_may (u8 _) h)
  · rename_i h
    split
    · split <;> exact ok_no
    · rename_i hb
      split
      · exact ok_no
      · rename_i hw
        right
        unfold mayB nmB
        simp only
        rw [rune_take hl h hb hw, Bool.or_true]
        rfl
theorem nums_words : ∀ p ∈ numsL, p.2 ∈ wordsL := by decide
theorem arrs_words : ∀ p ∈ arrsL, p.2 ∈ wordsL := by decide
theorem num_word (n : By) : numL n = [] ∨ numL n ∈ wordsL := by
  unfold numL
  cases h : numsL.find? fun p => p.1 == n with
  | none => exact .inl rfl
  | some p => exact .inr (nums_words p (List.mem_of_find?_eq_some h))
theorem arr_word (b : Nat) : arrL b = [] ∨ arrL b ∈ wordsL := by
  unfold arrL
  cases h : arrsL.find? fun p => p.1 == b with
  | none => exact .inl rfl
  | some p => exact .inr (arrs_words p (List.mem_of_find?_eq_some h))
theorem end_word (n : By) (two : Bool) (b : Nat) : endL n two b = [] ∨ endL n two b ∈ wordsL := by
  unfold endL
  split
  · exact num_word n
  · split
    · exact arr_word b
    · exact .inl rfl
theorem mods_small : ∀ x : Fin 8, ((x.val &&& 1) ||| ((x.val &&& 2) <<< 1) ||| ((x.val &&& 4) >>> 1)) < 8 := by decide
theorem mods_lt {m : By} {k : Nat} (h : modsL m = some k) : k < 8 := by
  match m, h with
  | [b], h =>
    unfold modsL at h
    simp only at h
    split at h
    · rename_i hb
      injection h with h
      rw [← h]
      exact mods_small ⟨b.toNat - 49, by omega⟩
    · cases h
theorem listed_ok (s : By) (b : Nat) : OkK (listedL s b) := by
  have key : ∀ n two md, md < 8 → OkK (if endL n two b = [] then noKy else ⟨endL n two b, md⟩) := by
    intro n two md hm
    split
    · exact ok_no
    · rename_i he
      rcases end_word n two b with h | h
      · exact absurd h he
      · exact word_may h hm
  unfold listedL
  obtain ⟨⟨n, m, two⟩, hc⟩ : ∃ x, cutS s = x := ⟨_, rfl⟩
  rw [hc]
  simp only
  cases two with
  | true =>
    rw [if_pos rfl]
    cases hm : modsL m with
    | none => exact ok_no
    | some k => exact key n true k (mods_lt hm)
  | false =>
    rw [if_neg (by decide)]
    exact key n false 0 (by decide)
theorem bracket_ok (l : By) : OkK (bracketL l).1 := by
  unfold bracketL
  simp only
  split
  · exact ok_no
  · split
    · exact listed_ok _ _
    · exact ok_no
theorem f_words : ∀ b : Nat, b < 84 → 80 ≤ b → ([102, (b - 31).toUInt8] : By) ∈ wordsL := by decide
theorem letter_ok (l : By) : OkK (letterL l).1 := by
  unfold letterL
  split
  · exact ok_no
  · simp only
    split
    · rename_i h
      exact word_may (f_words _ (by omega) h.1) (by decide)
    · split
      · exact ok_no
      · rename_i h
        rcases arr_word (l.getD 2 0).toNat with h2 | h2
        · exact absurd h2 h
        · exact word_may h2 (by decide)
theorem thing_ok {l : By} (hl : l ≠ []) : OkK (thingL l).1 := by
  unfold thingL
  split
  · exact plain_ok hl
  · split
    · exact ok_no
    · rename_i h1
      split
      · exact bracket_ok l
      · split
        · exact letter_ok l
        · split
          · exact word_may (by decide) (by decide)
          · have h0 := pos_of hl
            have hd : l.drop 1 ≠ [] := fun e => by
              have := congrArg List.length e
              rw [List.length_drop, List.length_nil] at this
              omega
            have hp := plain_ok hd
            simp only
            split
            · exact ok_no
            · show OkK (if (plainL (l.drop 1)).1.nm = [] then (plainL (l.drop 1)).1 else ⟨(plainL (l.drop 1)).1.nm, (plainL (l.drop 1)).1.md ||| 4⟩)
              split
              · exact hp
              · rename_i hn
                rcases hp with h | h
                · exact absurd h hn
                · obtain ⟨g1, g2⟩ := may_name h
                  right
                  unfold mayB
                  simp only
                  have : (plainL (l.drop 1)).1.md ||| 4 < 8 := Nat.or_lt_two_pow (n := 3) g1 (by decide)
                  rw [g2, decide_eq_true (by omega)]
                  rfl
theorem bytes_may : ∀ (n : Nat) (l : By), l.length = n → ∀ k ∈ (bytesL l).1, mayB k = true := by
  intro n
  induction n using Nat.strongRecOn with
  | _ n ih =>
    intro l hln k hk
    by_cases hl : l = []
    · subst hl
      cases hk
    · by_cases hn : (thingL l).2 = 0
      · rw [bytesL_wait hl hn] at hk
        cases hk
      · have h0 := pos_of hl
        have hi := ih (l.drop (thingL l).2).length (by rw [List.length_drop]; omega) _ rfl
        rw [bytesL_step hl hn] at hk
        simp only at hk
        split at hk
        · exact hi k hk
        · rename_i hnm
          rcases List.mem_cons.1 hk with rfl | hk
          · rcases thing_ok hl with h | h
            · exact absurd h hnm
            · exact h
          · exact hi k hk
theorem pieces {l : By} {m : Nat} (hm : m ≤ l.length) : (bytesL (l.take m)).2 ≤ m ∧ bytesL l = ((bytesL (l.take m)).1 ++ (bytesL (l.drop (m - (bytesL (l.take m)).2))).1, (bytesL (l.drop (m - (bytesL (l.take m)).2))).2) := by
  have hlen : (l.take m).length = m := by rw [List.length_take]; omega
  have hw := bytes_wait_le _ (l.take m) rfl
  have hb := bytes_app _ (l.take m) (l.drop m) rfl
  rw [List.take_append_drop, hlen] at hb
  rw [hlen] at hw
  refine ⟨hw, ?_⟩
  have hd : l.drop (m - (bytesL (l.take m)).2) = (l.take m).drop (m - (bytesL (l.take m)).2) ++ l.drop m := by
    have := List.drop_append_of_le_length (l₁ := l.take m) (l₂ := l.drop m) (i := m - (bytesL (l.take m)).2) (by rw [hlen]; omega)
    rwa [List.take_append_drop] at this
  rw [hd]
  exact hb
theorem bytes_len : ∀ (n : Nat) (l : By), l.length = n → (bytesL l).1.length ≤ l.length := by
  intro n
  induction n using Nat.strongRecOn with
  | _ n ih =>
    intro l hln
    by_cases hl : l = []
    · subst hl
      exact Nat.zero_le _
    · by_cases hn : (thingL l).2 = 0
      · rw [bytesL_wait hl hn]
        exact Nat.zero_le _
      · have h0 := pos_of hl
        have hi := ih (l.drop (thingL l).2).length (by rw [List.length_drop]; omega) _ rfl
        rw [List.length_drop] at hi
        rw [bytesL_step hl hn]
        simp only
        split
        · omega
        · rw [List.length_cons]
          have := thing_le hl
          omega
end Go.Proofs.YtddigbhijfpmkaaDoor
