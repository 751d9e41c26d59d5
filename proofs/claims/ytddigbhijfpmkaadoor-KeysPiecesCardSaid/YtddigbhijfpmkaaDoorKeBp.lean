/- Layer 21: plain laws of writing and reading back. -/
import Derived.Test.YtddigbhijfpmkaaDoorKeWp
namespace Go.Proofs.YtddigbhijfpmkaaDoor
set_option linter.unusedVariables false
set_option linter.unusedSimpArgs false
set_option maxRecDepth 100000
open Go.Lib
set_option maxRecDepth 100000

theorem rune_low {l : By} (h : runeOk l = true) : l ≠ [] ∧ wd l = l.length ∧ ¬ Brk l ∧ rn l ≠ 32 ∧ rn l ≠ 43 := by
  have := of_decide_eq_true h
  exact ⟨this.1, this.2.1, this.2.2.1, this.2.2.2.1, this.2.2.2.2.1⟩
theorem wd_ascii {l : By} (h : (l.getD 0 0).toNat < 128) : decodeL l = ((l.getD 0 0).toNat, 1) := by
  rw [decodeL_eq]
  exact dn1 h
/-- A whole rune's bytes: the one below 128, or none. -/
theorem rune_bytes {l : By} (h : runeOk l = true) : (∃ b : UInt8, l = [b] ∧ b.toNat = rn l ∧ b.toNat < 128) ∨ (∀ b ∈ l, 128 ≤ b.toNat) := by
  obtain ⟨h0, h1, h2, _, _⟩ := rune_low h
  by_cases hb : (l.getD 0 0).toNat < 128
  · have hd := wd_ascii hb
    have hw : wd l = 1 := by unfold wd; rw [hd]
    left
    rw [hw] at h1
    match l, h1 with
    | [b], _ => exact ⟨b, rfl, by unfold rn; rw [hd]; rfl, hb⟩
  · right
    intro b hbm
    obtain ⟨i, hi, rfl⟩ := List.mem_iff_getElem.1 hbm
    by_cases hi0 : i = 0
    · subst hi0
      rw [List.getD_eq_getElem?_getD, List.getElem?_eq_getElem hi] at hb
      simpa using hb
    · have := dec_cont h2 (i := i) (by omega) (by omega)
      rw [List.getD_eq_getElem?_getD, List.getElem?_eq_getElem hi] at this
      simp at this
      omega
theorem words_facts : ∀ l ∈ wordsL, modL l = (0, 0) ∧ (∀ b ∈ l, b ≠ 32) ∧ l.length ≤ 9 ∧ l ≠ [] := by decide
theorem name_facts {l : By} (h : nmB l = true) : modL l = (0, 0) ∧ (∀ b ∈ l, b ≠ 32) ∧ l.length ≤ 9 ∧ l ≠ [] := by
  unfold nmB at h
  by_cases hw : l ∈ wordsL
  · exact words_facts l hw
  · rw [decide_eq_false hw, Bool.false_or] at h
    obtain ⟨h0, h1, h2, h3, h4⟩ := rune_low h
    have h4l := wd_four l
    refine ⟨?_, ?_, by omega, h0⟩
    · rcases rune_bytes h with ⟨b, rfl, _, _⟩ | hall
      · unfold modL
        simp [ctrlL, altL, shiftL, List.isPrefixOf]
      · have hno : ∀ (p : By) (a : UInt8) (t : By), p = a :: t → a.toNat < 128 → p.isPrefixOf l = false := by
          intro p a t hp ha
          rw [hp]
          cases l with
          | nil => rfl
          | cons b l =>
            have hb := hall b List.mem_cons_self
            have : (a == b) = false := beq_eq_false_iff_ne.2 (fun e => by rw [e] at ha; omega)
            simp [List.isPrefixOf, this]
        unfold modL
        rw [hno ctrlL 99 _ rfl (by decide), hno altL 97 _ rfl (by decide), hno shiftL 115 _ rfl (by decide)]
        rfl
    · intro b hb e
      subst e
      rcases rune_bytes h with ⟨b, rfl, hr, _⟩ | hall
      · rw [List.mem_singleton] at hb
        subst hb
        exact h3 hr.symm
      · have := hall _ hb
        exact absurd this (by decide)
theorem mod_ctrl (l : By) : modL (ctrlL ++ l) = (2, 5) := by
  unfold modL
  simp [ctrlL, List.isPrefixOf]
theorem mod_alt (l : By) : modL (altL ++ l) = (4, 4) := by
  unfold modL
  simp [ctrlL, altL, List.isPrefixOf]
theorem mod_shift (l : By) : modL (shiftL ++ l) = (1, 6) := by
  unfold modL
  simp [ctrlL, altL, shiftL, List.isPrefixOf]
def wordT (b : Bool) (p : By) : By := if b then p else []
theorem parse_word {m n md at_ f : Nat} {p l : By} (hm : modL (p ++ l) = (m, n)) (hp : p.length = n) (h0 : m ≠ 0) (hd : md &&& m = 0) : parseG (f + 1) md at_ (p ++ l) = parseG f (md ||| m) (at_ + n) l := by
  rw [parseG_at, hm]
  simp only
  rw [if_neg h0, if_neg (fun h => h hd), List.drop_append_of_le_length (by omega), ← hp, List.drop_length, List.nil_append]
theorem parse_name {md at_ f : Nat} {l : By} (h : nmB l = true) : parseG (f + 1) md at_ l = (⟨l, md⟩, 0, 0) := by
  rw [parseG_at, (name_facts h).1]
  simp only
  rw [if_pos trivial, if_pos h]
theorem parse_words (c a s : Bool) (l : By) (h : nmB l = true) (f : Nat) :
    parseG (f + 4) 0 0 (wordT c ctrlL ++ (wordT a altL ++ (wordT s shiftL ++ l))) = (⟨l, (if c then 2 else 0) ||| (if a then 4 else 0) ||| (if s then 1 else 0)⟩, 0, 0) := by
  have hc := fun x => mod_ctrl x
  have ha := fun x => mod_alt x
  have hs := fun x => mod_shift x
  cases c <;> cases a <;> cases s <;> simp only [wordT, if_true, if_false, Bool.false_eq_true, List.nil_append]
  · rw [show f + 4 = (f + 3) + 1 from rfl, parse_name h]; try rfl
  · rw [show f + 4 = (f + 3) + 1 from rfl, parse_word (hs _) rfl (by decide) (by decide), show f + 3 = (f + 2) + 1 from rfl, parse_name h]; try rfl
  · rw [show f + 4 = (f + 3) + 1 from rfl, parse_word (ha _) rfl (by decide) (by decide), show f + 3 = (f + 2) + 1 from rfl, parse_name h]; try rfl
  · rw [show f + 4 = (f + 3) + 1 from rfl, parse_word (ha _) rfl (by decide) (by decide), show f + 3 = (f + 2) + 1 from rfl, parse_word (hs _) rfl (by decide) (by decide), show f + 2 = (f + 1) + 1 from rfl, parse_name h]; try rfl
  · rw [show f + 4 = (f + 3) + 1 from rfl, parse_word (hc _) rfl (by decide) (by decide), show f + 3 = (f + 2) + 1 from rfl, parse_name h]; try rfl
  · rw [show f + 4 = (f + 3) + 1 from rfl, parse_word (hc _) rfl (by decide) (by decide), show f + 3 = (f + 2) + 1 from rfl, parse_word (hs _) rfl (by decide) (by decide), show f + 2 = (f + 1) + 1 from rfl, parse_name h]; try rfl
  · rw [show f + 4 = (f + 3) + 1 from rfl, parse_word (hc _) rfl (by decide) (by decide), show f + 3 = (f + 2) + 1 from rfl, parse_word (ha _) rfl (by decide) (by decide), show f + 2 = (f + 1) + 1 from rfl, parse_name h]; try rfl
  · rw [show f + 4 = (f + 3) + 1 from rfl, parse_word (hc _) rfl (by decide) (by decide), show f + 3 = (f + 2) + 1 from rfl, parse_word (ha _) rfl (by decide) (by decide), show f + 2 = (f + 1) + 1 from rfl, parse_word (hs _) rfl (by decide) (by decide), parse_name h]; try rfl
theorem bits_back : ∀ m : Fin 8, (if ctrlB m.val then 2 else 0) ||| (if altB m.val then 4 else 0) ||| (if shiftB m.val then 1 else 0) = m.val := by decide
theorem text_words (k : Ky) : textL k = wordT (ctrlB k.md) ctrlL ++ (wordT (altB k.md) altL ++ (wordT (shiftB k.md) shiftL ++ k.nm)) := by
  unfold textL wordT
  simp only [List.append_assoc]
theorem word_len (b : Bool) (p : By) : (wordT b p).length ≤ p.length := by
  unfold wordT
  split
  · exact Nat.le_refl _
  · exact Nat.zero_le _
theorem may_name {k : Ky} (h : mayB k = true) : k.md < 8 ∧ nmB k.nm = true := by
  unfold mayB at h
  rw [Bool.and_eq_true] at h
  exact ⟨by have := of_decide_eq_true h.1; omega, h.2⟩
theorem text_len {k : Ky} (h : mayB k = true) : (textL k).length ≤ 24 := by
  obtain ⟨_, h2⟩ := may_name h
  have := (name_facts h2).2.2.1
  have a := word_len (ctrlB k.md) ctrlL
  have b := word_len (altB k.md) altL
  have c := word_len (shiftB k.md) shiftL
  rw [text_words]
  simp only [List.length_append]
  simp only [ctrlL, altL, shiftL, List.length_cons, List.length_nil] at a b c
  simp only [ctrlL, altL, shiftL]
  omega
theorem parseG_fuel : ∀ (f g md at_ : Nat) (l : By), l.length < f → l.length < g → parseG f md at_ l = parseG g md at_ l
  | 0, _, _, _, l, hf, _ => absurd hf (by omega)
  | _ + 1, 0, _, _, l, _, hg => absurd hg (by omega)
  | f + 1, g + 1, md, at_, l, hf, hg => by
    rw [parseG_at, parseG_at]
    split
    · rfl
    · rename_i hm
      split
      · rfl
      · have hl : 4 ≤ (modL l).2 ∧ (modL l).2 ≤ l.length := by
          rcases modL_cases l with ⟨h, _⟩ | ⟨_, h⟩
          · exact absurd h hm
          · exact h
        exact parseG_fuel f g _ _ _ (by rw [List.length_drop]; omega) (by rw [List.length_drop]; omega)
/-- What is written is read as the key. -/
theorem parse_text {k : Ky} (h : mayB k = true) : parseL (textL k) = (k, 0, 0) := by
  obtain ⟨h1, h2⟩ := may_name h
  unfold parseL
  rw [parseG_fuel _ ((textL k).length + 4) 0 0 _ (by omega) (by omega)]
  have := parse_words (ctrlB k.md) (altB k.md) (shiftB k.md) k.nm h2 (textL k).length
  rw [← text_words] at this
  rw [this, bits_back ⟨k.md, h1⟩]
theorem Parse_text {k : Ky} (h : mayB k = true) : ParseL (textL k) = (k, 0, 0) := by
  unfold ParseL
  rw [if_neg (by have := text_len h; omega), parse_text h]
theorem text_blank {k : Ky} (h : mayB k = true) : ∀ b ∈ textL k, b ≠ 32 := by
  obtain ⟨_, h2⟩ := may_name h
  have hw : ∀ (c : Bool) (p : By), (∀ b ∈ p, b ≠ 32) → ∀ b ∈ wordT c p, b ≠ 32 := fun c p hp b hb => by
    unfold wordT at hb
    split at hb
    · exact hp b hb
    · cases hb
  intro b hb
  rw [text_words] at hb
  rcases List.mem_append.1 hb with hb | hb
  · exact hw _ ctrlL (by decide) b hb
  · rcases List.mem_append.1 hb with hb | hb
    · exact hw _ altL (by decide) b hb
    · rcases List.mem_append.1 hb with hb | hb
      · exact hw _ shiftL (by decide) b hb
      · exact (name_facts h2).2.1 b hb
/-- A chord's text. -/
def joinT : List Ky → By
  | [] => []
  | [k] => textL k
  | k :: ks => textL k ++ 32 :: joinT ks
theorem joinT_cons (k : Ky) {ks : List Ky} (h : ks ≠ []) : joinT (k :: ks) = textL k ++ 32 :: joinT ks := by
  cases ks with
  | nil => exact absurd rfl h
  | cons a t => rfl
theorem joinT_snoc : ∀ (ks : List Ky) (k : Ky), joinT (ks ++ [k]) = if ks = [] then textL k else joinT ks ++ 32 :: textL k
  | [], k => rfl
  | a :: ks, k => by
    rw [if_neg (by simp), List.cons_append, joinT_cons a (by simp), joinT_snoc ks k]
    by_cases h : ks = []
    · subst h
      rfl
    · rw [if_neg h, joinT_cons a h, List.append_assoc, List.cons_append]
theorem cut_join : ∀ ks : List Ky, ks ≠ [] → (∀ k ∈ ks, mayB k = true) → cutB (joinT ks) = ks.map textL
  | [], h, _ => absurd rfl h
  | k :: ks, _, h => by
    have hk := text_blank (h k List.mem_cons_self)
    by_cases hn : ks = []
    · subst hn
      exact cutB_no _ hk
    · rw [joinT_cons k hn, cutB_at _ _ hk, cut_join ks hn (fun k' hk' => h k' (List.mem_cons_of_mem _ hk'))]
      rfl
theorem chordG_join : ∀ (ks acc : List Ky) (at_ : Nat), acc.length ≤ 8 → (∀ k ∈ ks, mayB k = true) → chordG acc at_ (ks.map textL) = if acc.length + ks.length ≤ 8 then (acc ++ ks, 0, 0) else ([], 0, 4)
  | [], acc, at_, ha, _ => by
    rw [if_pos (by simpa using ha), List.append_nil]
    rfl
  | k :: ks, acc, at_, ha, h => by
    have hp := parse_text (h k List.mem_cons_self)
    rw [List.map_cons, chordG_cons, hp]
    by_cases h8 : acc.length = 8
    · rw [if_pos h8, if_neg (by simp; omega)]
    · rw [if_neg h8, if_neg (by simp), chordG_join ks _ _ (by rw [List.length_append]; simp; omega) (fun k' hk' => h k' (List.mem_cons_of_mem _ hk'))]
      simp only [List.length_append, List.length_cons, List.length_nil, List.append_assoc, List.cons_append, List.nil_append]
      by_cases hc : acc.length + (0 + 1) + ks.length ≤ 8
      · rw [if_pos hc, if_pos (by omega)]
      · rw [if_neg hc, if_neg (by omega)]
theorem join_len : ∀ ks : List Ky, (∀ k ∈ ks, mayB k = true) → (joinT ks).length ≤ 25 * ks.length
  | [], _ => Nat.le_refl _
  | k :: ks, h => by
    have hk := text_len (h k List.mem_cons_self)
    by_cases hn : ks = []
    · subst hn
      show (textL k).length ≤ _
      simp
      omega
    · have := join_len ks (fun k' hk' => h k' (List.mem_cons_of_mem _ hk'))
      rw [joinT_cons k hn, List.length_append, List.length_cons, List.length_cons]
      omega
theorem chord_none : (chordL []).1 = [] ∧ (chordL []).2.2 = 210 := ⟨by kernel_rfl, by kernel_rfl⟩
theorem chord_join {ks : List Ky} (h : ∀ k ∈ ks, mayB k = true) : (1 ≤ ks.length ∧ ks.length ≤ 8 → chordL (joinT ks) = (ks, 0, 0)) ∧ (¬ (1 ≤ ks.length ∧ ks.length ≤ 8) → (chordL (joinT ks)).1 = [] ∧ (chordL (joinT ks)).2.2 ≠ 0) := by
  by_cases hn : ks = []
  · subst hn
    refine ⟨fun h => absurd h.1 (by simp), fun _ => ?_⟩
    obtain ⟨h1, h2⟩ := chord_none
    exact ⟨h1, by show (chordL []).2.2 ≠ 0; rw [h2]; decide⟩
  · have hp := List.length_pos_iff.2 hn
    have hl := join_len ks h
    have hj := chordG_join ks [] 0 (by simp) h
    rw [← cut_join ks hn h] at hj
    unfold chordL
    constructor
    · intro h8
      rw [if_neg (by omega), hj, if_pos (by simpa using h8.2)]
      rfl
    · intro h8
      split
      · exact ⟨rfl, by decide⟩
      · rw [hj, if_neg (by simp; omega)]
        exact ⟨rfl, by decide⟩
end Go.Proofs.YtddigbhijfpmkaaDoor
