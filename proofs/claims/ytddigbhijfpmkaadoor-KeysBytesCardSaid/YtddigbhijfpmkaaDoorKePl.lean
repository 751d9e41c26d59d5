/- Layer 21: plain laws of things: how long they are, what stands behind them, that their keys may be. -/
import Derived.Test.YtddigbhijfpmkaaDoorKePlain
import Derived.Test.YtddigbhijfpmkaaDoorRuDec
namespace Go.Proofs.YtddigbhijfpmkaaDoor
set_option linter.unusedVariables false
set_option linter.unusedSimpArgs false
set_option maxRecDepth 100000
open Go.Lib
set_option maxRecDepth 100000

theorem numRun_cons (b : UInt8) (t : By) : numRun (b :: t) = if 32 ≤ b.toNat ∧ b.toNat ≤ 63 then numRun t + 1 else 0 := by
  unfold numRun
  rw [List.takeWhile_cons]
  by_cases h : 32 ≤ b.toNat ∧ b.toNat ≤ 63
  · rw [if_pos h, if_pos (decide_eq_true h)]
    rfl
  · rw [if_neg h, if_neg (by rw [decide_eq_false h]; decide)]
    rfl
theorem numRun_le : ∀ l : By, numRun l ≤ l.length
  | [] => Nat.le_refl _
  | b :: t => by
    rw [numRun_cons]
    have := numRun_le t
    split
    · simp only [List.length_cons]; omega
    · exact Nat.zero_le _

/-! ### how long -/
theorem plain_le {l : By} (h : l ≠ []) : (plainL l).2 ≤ l.length := by
  have h1 : 1 ≤ l.length := by cases l with | nil => exact absurd rfl h | cons a t => simp
  unfold plainL
  split
  · exact h1
  · split
    · split
      · exact h1
      · exact Nat.zero_le _
    · split
      · exact wd_le l h
      · exact wd_le l h
theorem bracket_le {l : By} (h : 2 ≤ l.length) : (bracketL l).2 ≤ l.length := by
  have h1 := numRun_le (l.drop 2)
  rw [List.length_drop] at h1
  unfold bracketL
  simp only
  split
  · exact Nat.zero_le _
  · split
    · show 2 + numRun (l.drop 2) + 1 ≤ _
      omega
    · show 2 + numRun (l.drop 2) ≤ _
      omega
theorem letter_le {l : By} (h : 2 ≤ l.length) : (letterL l).2 ≤ l.length := by
  unfold letterL
  split
  · exact Nat.zero_le _
  · simp only
    split
    · show 3 ≤ _
      omega
    · split
      · show 2 ≤ _
        omega
      · show 3 ≤ _
        omega
theorem thing_le {l : By} (h : l ≠ []) : (thingL l).2 ≤ l.length := by
  have h1 : 1 ≤ l.length := by cases l with | nil => exact absurd rfl h | cons a t => simp
  unfold thingL
  split
  · exact plain_le h
  · split
    · exact Nat.zero_le _
    · split
      · exact bracket_le (by omega)
      · split
        · exact letter_le (by omega)
        · split
          · exact h1
          · have hd : l.drop 1 ≠ [] := fun e => by
              have := congrArg List.length e
              rw [List.length_drop, List.length_nil] at this
              omega
            have := plain_le hd
            rw [List.length_drop] at this
            simp only
            split
            · exact Nat.zero_le _
            · show (plainL (l.drop 1)).2 + 1 ≤ _
              omega

/-! ### more behind it -/
theorem getD_app {l : By} (m : By) {i : Nat} (h : i < l.length) : (l ++ m).getD i 0 = l.getD i 0 := by
  rw [List.getD_eq_getElem?_getD, List.getD_eq_getElem?_getD, List.getElem?_append_left h]
theorem pos_of {l : By} (h : l ≠ []) : 0 < l.length := List.length_pos_iff.2 h
theorem dec_app {l : By} (hl : l ≠ []) (hb : ¬ Brk l) (m : By) : decodeL (l ++ m) = decodeL l := by
  have := dec_pre hl hb (l.drop (wd l) ++ m)
  rwa [← List.append_assoc, List.take_append_drop] at this
def fullN (n b0 b1 b2 : Nat) : Prop := n ≠ 0 ∧ (firstT b0 % 8 ≤ n ∨ (1 < n ∧ (b1 < accLo (firstT b0 / 16) ∨ accHi (firstT b0 / 16) < b1)) ∨ (2 < n ∧ (b2 < 128 ∨ 191 < b2)))
theorem full_iff (l : By) : fullB l = true ↔ fullN l.length (l.getD 0 0).toNat (l.getD 1 0).toNat (l.getD 2 0).toNat := by
  unfold fullB fullN
  split
  · simp [*]
  · split
    · rename_i h1 h2
      exact ⟨fun _ => ⟨h1, .inl h2⟩, fun _ => rfl⟩
    · split
      · rename_i h1 h2 h3
        simp only [true_iff]
        exact ⟨h1, .inr (.inl h3)⟩
      · rename_i h1 h2 h3
        simp only [decide_eq_true_eq]
        constructor
        · intro h
          exact ⟨h1, .inr (.inr h)⟩
        · rintro ⟨_, h | h | h⟩
          · exact absurd h h2
          · exact absurd h h3
          · exact h
theorem firstT_ge {b : Nat} (hx : ¬ firstT b < 240) : firstT b = 240 ∨ firstT b = 241 := by
  unfold firstT at hx ⊢
  repeat' split at hx
  all_goals first
    | (exfalso; omega)
    | (repeat' split
       all_goals first
         | exact .inl rfl
         | exact .inr rfl
         | (exfalso; omega))
/-- A broken rune that is whole stays so. -/
theorem brokenN {n n' b0 b1 b2 b3 c1 c2 c3 : Nat} (hn : 1 ≤ n) (hnn : n ≤ n') (h0 : b0 < 256) (hb : b1 < 256 ∧ b2 < 256 ∧ b3 < 256) (hc : c1 < 256 ∧ c2 < 256 ∧ c3 < 256) (e1 : 1 < n → c1 = b1) (e2 : 2 < n → c2 = b2) (e3 : 3 < n → c3 = b3)
    (hB : decodeN n b0 b1 b2 b3 = (65533, 1)) (hF : fullN n b0 b1 b2) : decodeN n' b0 c1 c2 c3 = (65533, 1) ∧ fullN n' b0 c1 c2 := by
  by_cases hx : firstT b0 < 240
  · rw [← slow_eq n b0 b1 b2 b3 hn hb.1 hb.2.1 hb.2.2 hx] at hB
    rw [← slow_eq n' b0 c1 c2 c3 (by omega) hc.1 hc.2.1 hc.2.2 hx]
    have hsz : firstT b0 % 8 = 2 ∨ firstT b0 % 8 = 3 ∨ firstT b0 % 8 = 4 := by
      rcases firstT_low hx with h | h | h | h | h | h | h
      · rw [firstT_C2 h]; decide
      · rw [firstT_E0 h]; decide
      · rw [firstT_E1 h]; decide
      · rw [firstT_ED h]; decide
      · rw [firstT_F0 h]; decide
      · rw [firstT_F1 h]; decide
      · rw [firstT_F4 h]; decide
    unfold fullN at hF ⊢
    generalize firstT b0 % 8 = sz at *
    generalize accLo (firstT b0 / 16) = lo at *
    generalize accHi (firstT b0 / 16) = hi at *
    obtain ⟨_, hF⟩ := hF
    unfold slowN at hB ⊢
    constructor
    · rcases hF with hF | ⟨q1, q2⟩ | ⟨q1, q2⟩
      · rw [if_neg (by omega)] at hB ⊢
        rw [e1 (by omega)]
        by_cases g1 : b1 < lo ∨ hi < b1
        · rw [if_pos g1]
        · rw [if_neg g1] at hB ⊢
          by_cases g2 : sz ≤ 2
          · rw [if_pos g2] at hB
            exact absurd (congrArg Prod.snd hB) (by simp)
          · rw [if_neg g2] at hB ⊢
            rw [e2 (by omega)]
            by_cases g3 : b2 < 128 ∨ 191 < b2
            · rw [if_pos g3]
            · rw [if_neg g3] at hB ⊢
              by_cases g4 : sz ≤ 3
              · rw [if_pos g4] at hB
                exact absurd (congrArg Prod.snd hB) (by simp)
              · rw [if_neg g4] at hB ⊢
                rw [e3 (by omega)]
                by_cases g5 : b3 < 128 ∨ 191 < b3
                · rw [if_pos g5]
                · rw [if_neg g5] at hB
                  exact absurd (congrArg Prod.snd hB) (by simp)
      · rw [e1 q1]
        by_cases g : n' < sz
        · rw [if_pos g]
        · rw [if_neg g, if_pos q2]
      · rw [e1 (by omega), e2 q1]
        by_cases g : n' < sz
        · rw [if_pos g]
        · rw [if_neg g]
          by_cases g1 : b1 < lo ∨ hi < b1
          · rw [if_pos g1]
          · rw [if_neg g1]
            by_cases g2 : sz ≤ 2
            · rw [if_neg (by omega), if_neg g1, if_pos g2] at hB
              exact absurd (congrArg Prod.snd hB) (by simp)
            · rw [if_neg g2, if_pos q2]
    · refine ⟨by omega, ?_⟩
      rcases hF with hF | ⟨q1, q2⟩ | ⟨q1, q2⟩
      · exact .inl (by omega)
      · exact .inr (.inl ⟨by omega, by rw [e1 q1]; exact q2⟩)
      · exact .inr (.inr ⟨by omega, by rw [e2 q1]; exact q2⟩)
  · rcases firstT_ge hx with h | h
    · rw [ascii_eq _ _ _ _ _ h] at hB
      have hlt : b0 = 65533 := congrArg Prod.fst hB
      omega
    · refine ⟨bad_eq _ _ _ _ _ h0 h, by omega, .inl ?_⟩
      rw [h]
      omega
theorem u8 (b : UInt8) : b.toNat < 256 := b.toNat_lt
theorem broken_app {l : By} (hl : l ≠ []) (hB : Brk l) (hF : fullB l = true) (m : By) : Brk (l ++ m) ∧ fullB (l ++ m) = true := by
  have h0 := pos_of hl
  rw [full_iff] at hF ⊢
  unfold Brk at hB ⊢
  rw [decodeL_eq] at hB ⊢
  rw [getD_app m h0]
  exact brokenN (by omega) (by rw [List.length_append]; omega) (u8 _) ⟨u8 _, u8 _, u8 _⟩ ⟨u8 _, u8 _, u8 _⟩ (fun h => by rw [getD_app m h]) (fun h => by rw [getD_app m h]) (fun h => by rw [getD_app m h]) hB hF
theorem plain_app {l : By} (hl : l ≠ []) (hn : (plainL l).2 ≠ 0) (m : By) : plainL (l ++ m) = plainL l := by
  unfold plainL at hn ⊢
  rw [getD_app m (pos_of hl)]
  split
  · rfl
  · rename_i h
    rw [h] at hn
    simp only at hn
    by_cases hb : Brk l
    · rw [if_pos hb] at hn ⊢
      by_cases hf : fullB l = true
      · obtain ⟨h1, h2⟩ := broken_app hl hb hf m
        rw [if_pos h1, if_pos h2, if_pos hf]
      · rw [if_neg hf] at hn
        exact absurd rfl hn
    · have hd := dec_app hl hb m
      have hb' : ¬ Brk (l ++ m) := by
        unfold Brk at hb ⊢
        rw [hd]
        exact hb
      have hr : rn (l ++ m) = rn l := by unfold rn; rw [hd]
      have hw : wd (l ++ m) = wd l := by unfold wd; rw [hd]
      rw [if_neg hb, if_neg hb', hr, hw, List.take_append_of_le_length (wd_le l hl)]
theorem numRun_app : ∀ (l m : By), numRun l ≠ l.length → numRun (l ++ m) = numRun l
  | [], m, h => absurd rfl h
  | b :: t, m, h => by
    rw [List.cons_append, numRun_cons, numRun_cons] at *
    by_cases hb : 32 ≤ b.toNat ∧ b.toNat ≤ 63
    · rw [if_pos hb] at h ⊢
      rw [if_pos hb, numRun_app t m (fun e => h (by rw [e]; rfl))]
    · rw [if_neg hb, if_neg hb]
theorem bracket_app {l : By} (h2 : 2 ≤ l.length) (hn : (bracketL l).2 ≠ 0) (m : By) : bracketL (l ++ m) = bracketL l := by
  have h1 := numRun_le (l.drop 2)
  rw [List.length_drop] at h1
  have hne : 2 + numRun (l.drop 2) ≠ l.length := fun e => by
    unfold bracketL at hn
    simp only [if_pos e] at hn
    exact hn rfl
  have hr : numRun ((l ++ m).drop 2) = numRun (l.drop 2) := by
    rw [List.drop_append_of_le_length h2]
    exact numRun_app _ _ (by rw [List.length_drop]; omega)
  unfold bracketL
  simp only [hr]
  rw [if_neg hne, if_neg (by rw [List.length_append]; omega), getD_app m (by omega), List.take_append_of_le_length (by omega)]
theorem letter_app {l : By} (h2 : 2 ≤ l.length) (hn : (letterL l).2 ≠ 0) (m : By) : letterL (l ++ m) = letterL l := by
  have hne : l.length ≠ 2 := fun e => by
    unfold letterL at hn
    rw [if_pos e] at hn
    exact hn rfl
  unfold letterL
  rw [if_neg hne, if_neg (by rw [List.length_append]; omega), getD_app m (by omega)]
theorem thing_app {l : By} (hl : l ≠ []) (hn : (thingL l).2 ≠ 0) (m : By) : thingL (l ++ m) = thingL l := by
  have h0 := pos_of hl
  unfold thingL at hn ⊢
  rw [getD_app m h0]
  by_cases c1 : (l.getD 0 0).toNat ≠ 27
  · rw [if_pos c1] at hn ⊢
    rw [if_pos c1]
    exact plain_app hl hn m
  · rw [if_neg c1] at hn ⊢
    rw [if_neg c1]
    have hl1 : l.length ≠ 1 := fun e => by
      rw [if_pos e] at hn
      exact hn rfl
    rw [if_neg hl1] at hn ⊢
    rw [if_neg (by rw [List.length_append]; omega), getD_app m (by omega)]
    by_cases c2 : (l.getD 1 0).toNat = 91
    · rw [if_pos c2] at hn ⊢
      rw [if_pos c2]
      exact bracket_app (by omega) hn m
    · rw [if_neg c2] at hn ⊢
      rw [if_neg c2]
      by_cases c3 : (l.getD 1 0).toNat = 79
      · rw [if_pos c3] at hn ⊢
        rw [if_pos c3]
        exact letter_app (by omega) hn m
      · rw [if_neg c3] at hn ⊢
        rw [if_neg c3]
        by_cases c4 : (l.getD 1 0).toNat = 27
        · rw [if_pos c4, if_pos c4]
        · rw [if_neg c4] at hn ⊢
          rw [if_neg c4]
          have hd : l.drop 1 ≠ [] := fun e => by
            have := congrArg List.length e
            rw [List.length_drop, List.length_nil] at this
            omega
          have hp : (plainL (l.drop 1)).2 ≠ 0 := fun e => by
            simp only [if_pos e] at hn
            exact hn rfl
          rw [List.drop_append_of_le_length (by omega), plain_app hd hp m]

/-! ### all of them -/
theorem bytesG_fuel : ∀ (f g : Nat) (l : By), l.length ≤ f → l.length ≤ g → bytesG f l = bytesG g l
  | 0, 0, _, _, _ => rfl
  | 0, g + 1, l, hf, _ => by
    have : l = [] := List.eq_nil_of_length_eq_zero (by omega)
    subst this
    rfl
  | f + 1, 0, l, _, hg => by
    have : l = [] := List.eq_nil_of_length_eq_zero (by omega)
    subst this
    rfl
  | f + 1, g + 1, l, hf, hg => by
    unfold bytesG
    by_cases hl : l = []
    · rw [if_pos hl, if_pos hl]
    · rw [if_neg hl, if_neg hl]
      by_cases hn : (thingL l).2 = 0
      · rw [if_pos hn, if_pos hn]
      · rw [if_neg hn, if_neg hn, bytesG_fuel f g _ (by rw [List.length_drop]; omega) (by rw [List.length_drop]; omega)]
theorem bytesL_nil : bytesL [] = ([], 0) := rfl
theorem bytesL_wait {l : By} (hl : l ≠ []) (hn : (thingL l).2 = 0) : bytesL l = ([], l.length) := by
  unfold bytesL
  obtain ⟨n, hN⟩ : ∃ n, l.length = n + 1 := ⟨l.length - 1, by have := pos_of hl; omega⟩
  rw [hN]
  unfold bytesG
  rw [if_neg hl, if_pos hn, hN]
theorem bytesL_step {l : By} (hl : l ≠ []) (hn : (thingL l).2 ≠ 0) : bytesL l = (if (thingL l).1.nm = [] then (bytesL (l.drop (thingL l).2)).1 else (thingL l).1 :: (bytesL (l.drop (thingL l).2)).1, (bytesL (l.drop (thingL l).2)).2) := by
  unfold bytesL
  obtain ⟨n, hN⟩ : ∃ n, l.length = n + 1 := ⟨l.length - 1, by have := pos_of hl; omega⟩
  rw [hN]
  rw [bytesG, if_neg hl, if_neg hn, bytesG_fuel n (l.drop (thingL l).2).length _ (by rw [List.length_drop]; omega) (Nat.le_refl _)]
theorem bytes_wait_le : ∀ (n : Nat) (l : By), l.length = n → (bytesL l).2 ≤ l.length := by
  intro n
  induction n using Nat.strongRecOn with
  | _ n ih =>
    intro l hln
    by_cases hl : l = []
    · subst hl
      exact Nat.zero_le _
    · by_cases hn : (thingL l).2 = 0
      · rw [bytesL_wait hl hn]
        exact Nat.le_refl _
      · have h0 := pos_of hl
        have h1 := ih (l.drop (thingL l).2).length (by rw [List.length_drop]; omega) _ rfl
        rw [bytesL_step hl hn]
        rw [List.length_drop] at h1
        show (bytesL (l.drop (thingL l).2)).2 ≤ _
        omega
/-- IN PIECES AND WHOLE. -/
theorem bytes_app : ∀ (n : Nat) (p q : By), p.length = n → bytesL (p ++ q) = ((bytesL p).1 ++ (bytesL (p.drop (p.length - (bytesL p).2) ++ q)).1, (bytesL (p.drop (p.length - (bytesL p).2) ++ q)).2) := by
  intro n
  induction n using Nat.strongRecOn with
  | _ n ih =>
    intro p q hpn
    by_cases hp : p = []
    · subst hp
      simp [bytesL_nil]
    · by_cases hn : (thingL p).2 = 0
      · rw [bytesL_wait hp hn, Nat.sub_self, List.drop_zero]
        rfl
      · have h0 := pos_of hp
        have hle := thing_le hp
        have hwl := bytes_wait_le _ (p.drop (thingL p).2) rfl
        have h1 := ih (p.drop (thingL p).2).length (by rw [List.length_drop]; omega) (p.drop (thingL p).2) q rfl
        rw [List.length_drop] at h1 hwl
        have hpq : p ++ q ≠ [] := fun e => hp (List.append_eq_nil_iff.1 e).1
        have ht := thing_app hp hn q
        have hdrop : (p.drop (thingL p).2).drop (p.length - (thingL p).2 - (bytesL (p.drop (thingL p).2)).2) = p.drop (p.length - (bytesL (p.drop (thingL p).2)).2) := by
          rw [List.drop_drop]
          congr 1
          omega
        rw [hdrop] at h1
        rw [bytesL_step hpq (by rw [ht]; exact hn), ht, List.drop_append_of_le_length hle, h1, bytesL_step hp hn]
        by_cases he : (thingL p).1.nm = []
        · simp only [if_pos he]
        · simp only [if_neg he, List.cons_append]
end Go.Proofs.YtddigbhijfpmkaaDoor
