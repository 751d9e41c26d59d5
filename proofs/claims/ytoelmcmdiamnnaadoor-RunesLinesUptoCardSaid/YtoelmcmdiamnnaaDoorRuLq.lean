/- Layer 3: nothing is lost: what RunesLines says of lines and cuts, plain. -/
import Derived.Test.YtoelmcmdiamnnaaDoorRuDec
import Derived.Test.YtoelmcmdiamnnaaDoorRuL6
import Derived.Lib.Bytealg
namespace Go.Proofs.YtoelmcmdiamnnaaDoor
set_option linter.unusedVariables false
set_option linter.unusedSimpArgs false
set_option maxRecDepth 100000
open Go.Lib

/-! ### paragraphs -/
def tl (ps : List By) : By := ps.flatMap fun q => 10 :: q
theorem tl_nil : tl [] = [] := rfl
theorem tl_cons (q : By) (qs : List By) : tl (q :: qs) = 10 :: (q ++ tl qs) := by simp [tl]
theorem jn_spl : ∀ s : By, ∃ p ps, spl s = p :: ps ∧ s = p ++ tl ps
  | [] => ⟨[], [], rfl, rfl⟩
  | c :: t => by
    obtain ⟨p, ps, h1, h2⟩ := jn_spl t
    rw [spl_cons]
    split
    · rename_i hc
      refine ⟨[], p :: ps, by rw [h1], ?_⟩
      rw [List.nil_append, tl_cons, ← h2, hc]
    · rw [h1]
      exact ⟨c :: p, ps, rfl, by rw [List.cons_append, ← h2]⟩
theorem spl_no : ∀ s : By, ∀ p ∈ spl s, ∀ b ∈ p, b ≠ 10
  | [], p, hp, b, hb => by
    have : p = [] := by simpa [spl] using hp
    subst this
    simp at hb
  | c :: t, p, hp, b, hb => by
    have ih := spl_no t
    rw [spl_cons] at hp
    split at hp
    · rcases List.mem_cons.1 hp with rfl | hp
      · simp at hb
      · exact ih p hp b hb
    · rename_i hc
      split at hp
      · rename_i p0 ps0 he
        rcases List.mem_cons.1 hp with rfl | hp
        · rcases List.mem_cons.1 hb with rfl | hb
          · exact hc
          · exact ih p0 (by rw [he]; simp) b hb
        · exact ih p (by rw [he]; simp [hp]) b hb
      · rename_i he
        exact absurd he (spl_ne t)
def twS (L : List By) : Nat := (L.map tw).sum
theorem twS_append (L M : List By) : twS (L ++ M) = twS L + twS M := by simp [twS]
theorem wid_ten : wid ((10 : UInt8).toNat : Int) = 0 := by decide
theorem tw_tl : ∀ (ps : List By) (p : By), tw (p ++ tl ps) = tw p + twS ps
  | [], p => by rw [tl_nil, List.append_nil]; rfl
  | q :: qs, p => by
    rw [tl_cons, tw_ascii 10 (by decide) _ _ p (Nat.le_refl _), wid_ten, tw_tl qs q]
    simp only [twS, List.map_cons, List.sum_cons]
    omega

/-! ### lines -/
theorem parB_head (c : Int) {p : By} (hp : p ≠ []) : ∃ h, parB c p = h :: parB c (p.drop h.length) ∧ p.take h.length = h ∧ 1 ≤ h.length ∧ h.length ≤ p.length := by
  have hb := cutAt_bounds c hp
  have hl : (p.take (cutAt c p)).length = cutAt c p := by rw [List.length_take]; omega
  refine ⟨p.take (cutAt c p), ?_, ?_, by omega, by omega⟩
  · rw [hl]
    exact parB_cons c hp
  · rw [hl]
theorem parE_head (c : Int) (p : By) : ∃ h, parE c p = h :: parB c (p.drop h.length) ∧ p.take h.length = h ∧ h.length ≤ p.length := by
  unfold parE
  split
  · exact ⟨p, by rw [List.drop_length, parB_nil], List.take_length, Nat.le_refl _⟩
  · split
    · rename_i h
      subst h
      exact ⟨[], rfl, rfl, Nat.le_refl _⟩
    · rename_i h
      obtain ⟨x, h1, h2, _, h4⟩ := parB_head c h
      exact ⟨x, h1, h2, h4⟩
theorem twS_parB (c : Int) : ∀ (n : Nat) (p : By), p.length ≤ n → twS (parB c p) = tw p
  | _, [], _ => rfl
  | 0, b :: t, h => absurd h (by simp)
  | n + 1, b :: t, h => by
    obtain ⟨p, hp⟩ : ∃ p, b :: t = p := ⟨_, rfl⟩
    have hne : p ≠ [] := by rw [← hp]; simp
    rw [hp] at h ⊢
    have hb := cutAt_bounds c hne
    rw [parB_cons c hne]
    have ih := twS_parB c n (p.drop (cutAt c p)) (by rw [List.length_drop]; omega)
    have hk := (tw_piece p (line_bounds c _ (pcs_ne_nil hne)).2).2
    simp only [twS, List.map_cons, List.sum_cons]
    rw [show ((parB c (p.drop (cutAt c p))).map tw).sum = twS (parB c (p.drop (cutAt c p))) from rfl, ih]
    exact hk
theorem twS_parE (c : Int) (p : By) : twS (parE c p) = tw p := by
  unfold parE
  split
  · simp [twS]
  · split
    · rename_i h
      subst h
      rfl
    · exact twS_parB c _ p (Nat.le_refl _)
theorem twS_lines (c : Int) (s : By) : twS (linesE c s) = tw s := by
  obtain ⟨p, ps, h1, h2⟩ := jn_spl s
  have key : ∀ L : List By, twS (L.flatMap (parE c)) = twS L := by
    intro L
    induction L with
    | nil => rfl
    | cons q L ih =>
      rw [List.flatMap_cons, twS_append, ih, twS_parE]
      simp [twS]
  unfold linesE
  rw [key, h1]
  rw [h2, tw_tl]
  simp [twS]
theorem parB_mem (c : Int) : ∀ (n : Nat) (p : By), p.length ≤ n → ∀ l ∈ parB c p, ∀ b ∈ l, b ∈ p
  | _, [], _, l, hl, _, _ => by simp [parB_nil] at hl
  | 0, b :: t, h, _, _, _, _ => absurd h (by simp)
  | n + 1, b :: t, h, l, hl, x, hx => by
    obtain ⟨p, hp⟩ : ∃ p, b :: t = p := ⟨_, rfl⟩
    have hne : p ≠ [] := by rw [← hp]; simp
    rw [hp] at h hl ⊢
    have hb := cutAt_bounds c hne
    rw [parB_cons c hne] at hl
    rcases List.mem_cons.1 hl with rfl | hl
    · exact List.mem_of_mem_take hx
    · exact List.mem_of_mem_drop (parB_mem c n _ (by rw [List.length_drop]; omega) l hl x hx)
theorem lines_no (c : Int) (s : By) : ∀ l ∈ linesE c s, ∀ b ∈ l, b ≠ 10 := by
  intro l hl b hb
  unfold linesE at hl
  obtain ⟨p, hp, hl⟩ := List.mem_flatMap.1 hl
  refine spl_no s p hp b ?_
  unfold parE at hl
  split at hl
  · have : l = p := by simpa using hl
    rw [← this]
    exact hb
  · split at hl
    · have : l = [] := by simpa using hl
      rw [this] at hb
      simp at hb
    · exact parB_mem c _ p (Nat.le_refl _) l hl b hb
theorem indexByte_no : ∀ (l : By), (∀ b ∈ l, b ≠ 10) → Lib.indexByte l 10 = -1
  | [], _ => rfl
  | b :: l, h => by
    have ih := indexByte_no l (fun x hx => h x (by simp [hx]))
    have hb := h b (by simp)
    unfold Lib.indexByte
    rw [if_neg (by simpa using hb), ih]
    rfl
theorem toC_mono (P : List (Nat × Nat)) {j k : Nat} (h : j ≤ k) : toC P j ≤ toC P k := by
  have : P.take j = (P.take k).take j := by rw [List.take_take]; congr 1; omega
  unfold toC
  rw [this]
  have h2 : total (P.take k) = total ((P.take k).take j) + total ((P.take k).drop j) := by
    unfold total
    rw [← List.sum_append, ← List.map_append, List.take_append_drop]
  omega
theorem lnF_fit {c : Int} (hc : 2 ≤ c) (P : List (Nat × Nat)) : ∀ (d i bl : Nat), P.length - i = d → i ≤ P.length → (toC P i : Int) ≤ c → bl ≤ i → (toC P (lnF c i (toC P i) bl (P.drop i)) : Int) ≤ c
  | 0, i, bl, hd, hi, ht, hb => by
    obtain rfl : i = P.length := by omega
    rw [lnF_end]
    exact ht
  | d + 1, i, bl, hd, hi, ht, hb => by
    have hk : i < P.length := by omega
    rw [lnF_step c P hk]
    split
    · split
      · have := toC_mono P hb
        omega
      · exact ht
    · rename_i hcond
      have hs := toC_succ P i hk
      rw [← hs] at hcond ⊢
      refine lnF_fit hc P d (i + 1) _ (by omega) (by omega) ?_ (by split <;> omega)
      by_cases h1 : 1 ≤ i
      · have := fun h => hcond ⟨h1, h⟩
        omega
      · obtain rfl : i = 0 := by omega
        have hw := wid_le (P[0].2 : Int)
        rw [hs, toC_zero]
        omega
theorem line_fit {c : Int} (hc : 2 ≤ c) (P : List (Nat × Nat)) : (toC P (line c P) : Int) ≤ c := by
  have := lnF_fit hc P P.length 0 0 rfl (by omega) (by rw [toC_zero]; omega) (by omega)
  rw [toC_zero, List.drop_zero] at this
  exact this
theorem parB_fit {c : Int} (hc : 2 ≤ c) : ∀ (n : Nat) (p : By), p.length ≤ n → ∀ l ∈ parB c p, (tw l : Int) ≤ c
  | _, [], _, l, hl => by simp [parB_nil] at hl
  | 0, b :: t, h, _, _ => absurd h (by simp)
  | n + 1, b :: t, h, l, hl => by
    obtain ⟨p, hp⟩ : ∃ p, b :: t = p := ⟨_, rfl⟩
    have hne : p ≠ [] := by rw [← hp]; simp
    rw [hp] at h hl
    have hb := cutAt_bounds c hne
    rw [parB_cons c hne] at hl
    rcases List.mem_cons.1 hl with rfl | hl
    · have := (tw_piece p (line_bounds c _ (pcs_ne_nil hne)).2).1
      unfold cutAt
      rw [this]
      exact line_fit hc _
    · exact parB_fit hc n _ (by rw [List.length_drop]; omega) l hl
theorem lines_fit {c : Int} (hc : 2 ≤ c) (s : By) : ∀ l ∈ linesE c s, (tw l : Int) ≤ c := by
  intro l hl
  unfold linesE at hl
  obtain ⟨p, hp, hl⟩ := List.mem_flatMap.1 hl
  unfold parE at hl
  rw [if_neg (by omega)] at hl
  split at hl
  · have : l = [] := by simpa using hl
    rw [this, tw_nil]
    omega
  · exact parB_fit hc _ p (Nat.le_refl _) l hl
theorem widest_le {m : Int} (hm : 0 ≤ m) (L : List By) (h : ∀ l ∈ L, (tw l : Int) ≤ m) : (widest L : Int) ≤ m := by
  have key : ∀ k, k ≤ L.length → (widest (L.take k) : Int) ≤ m := by
    intro k
    induction k with
    | zero => intro _; simp [widest]; omega
    | succ k ih =>
      intro hk
      rw [widest_take L (by omega)]
      have h1 := ih (by omega)
      have h2 := h _ (List.getElem_mem (show k < L.length by omega))
      rw [← total_tw] at h2
      unfold cellsL
      omega
  have := key L.length (Nat.le_refl _)
  rwa [List.take_length] at this

/-! ### one line behind the other -/
structure Pos (c : Int) (S : By) (R : List By) (i a : Nat) (p : By) (qs : List By) : Prop where
  text : S.drop a = p ++ tl qs
  lines : R.drop i = parB c p ++ qs.flatMap (parE c)
  nop : ∀ b ∈ p, b ≠ 10
  noq : ∀ q ∈ qs, ∀ b ∈ q, b ≠ 10
  le : a ≤ S.length
theorem drop_add (S : By) (a n : Nat) (p t : By) (h : S.drop a = p ++ t) (hn : n ≤ p.length) : S.drop (a + n) = p.drop n ++ t ∧ (S.drop a).take n = p.take n ∧ (a ≤ S.length → a + n ≤ S.length) := by
  refine ⟨by rw [← List.drop_drop, h, List.drop_append_of_le_length hn], by rw [h, List.take_append_of_le_length hn], fun ha => ?_⟩
  have := congrArg List.length h
  rw [List.length_drop, List.length_append] at this
  omega
theorem pos_start (c : Int) (S : By) : ∃ h, (linesE c S)[0]? = some h ∧ S.take h.length = h ∧ h.length ≤ S.length ∧ ∃ p qs, Pos c S (linesE c S) 1 h.length p qs := by
  obtain ⟨p, ps, h1, h2⟩ := jn_spl S
  have hno := spl_no S
  rw [h1] at hno
  obtain ⟨h, e1, e2, e3⟩ := parE_head c p
  have hR : linesE c S = h :: (parB c (p.drop h.length) ++ ps.flatMap (parE c)) := by
    unfold linesE
    rw [h1, List.flatMap_cons, e1]
    rfl
  obtain ⟨d1, d2, d3⟩ := drop_add S 0 h.length p (tl ps) (by rw [List.drop_zero]; exact h2) e3
  rw [Nat.zero_add] at d1 d3
  rw [List.drop_zero] at d2
  refine ⟨h, by rw [hR]; rfl, by rw [d2, e2], d3 (Nat.zero_le _), p.drop h.length, ps, ⟨d1, by rw [hR]; rfl, fun b hb => hno p (by simp) b (List.mem_of_mem_drop hb), fun q hq => hno q (by simp [hq]), d3 (Nat.zero_le _)⟩⟩
theorem pos_step {c : Int} {S : By} {R : List By} {i a : Nat} {p : By} {qs : List By} (H : Pos c S R i a p qs) (hi : i < R.length) :
    ∃ a', ((∃ ha : a < S.length, S[a] = 10 ∧ a' = a + 1) ∨ (∃ ha : a < S.length, S[a] ≠ 10 ∧ a' = a)) ∧ a' + (R[i]).length ≤ S.length ∧ (S.drop a').take (R[i]).length = R[i] ∧ ∃ p' qs', Pos c S R (i + 1) (a' + (R[i]).length) p' qs' := by
  have hdr := List.drop_eq_getElem_cons hi
  by_cases hp : p = []
  · subst hp
    cases qs with
    | nil =>
      have := H.lines
      rw [parB_nil, List.flatMap_nil, List.append_nil, hdr] at this
      simp at this
      omega
    | cons q qs =>
      obtain ⟨h, e1, e2, e3⟩ := parE_head c q
      have hl := H.lines
      rw [parB_nil, List.nil_append, List.flatMap_cons, e1, hdr, List.cons_append] at hl
      injection hl with hl1 hl2
      have ht := H.text
      rw [List.nil_append, tl_cons] at ht
      have hlen := congrArg List.length ht
      rw [List.length_drop, List.length_cons] at hlen
      have ha : a < S.length := by omega
      have hda := List.drop_eq_getElem_cons ha
      rw [hda] at ht
      injection ht with ht1 ht2
      obtain ⟨d1, d2, d3⟩ := drop_add S (a + 1) h.length q (tl qs) ht2 e3
      rw [hl1]
      refine ⟨a + 1, .inl ⟨ha, ht1, rfl⟩, d3 (by omega), by rw [d2, e2], q.drop h.length, qs, ⟨d1, hl2, fun b hb => H.noq q (by simp) b (List.mem_of_mem_drop hb), fun q' hq => H.noq q' (by simp [hq]), d3 (by omega)⟩⟩
  · obtain ⟨h, e1, e2, e3, e4⟩ := parB_head c hp
    have hl := H.lines
    rw [e1, hdr, List.cons_append] at hl
    injection hl with hl1 hl2
    have ht := H.text
    have hlen := congrArg List.length ht
    rw [List.length_drop, List.length_append] at hlen
    have ha : a < S.length := by omega
    have hx : S[a] ≠ 10 := by
      have hda := List.drop_eq_getElem_cons ha
      rw [hda] at ht
      cases p with
      | nil => exact absurd rfl hp
      | cons b p =>
        rw [List.cons_append] at ht
        injection ht with ht1 _
        rw [ht1]
        exact H.nop b (by simp)
    obtain ⟨d1, d2, d3⟩ := drop_add S a h.length p (tl qs) H.text e4
    rw [hl1]
    exact ⟨a, .inr ⟨ha, hx, rfl⟩, d3 H.le, by rw [d2, e2], p.drop h.length, qs, ⟨d1, hl2, fun b hb => H.nop b (List.mem_of_mem_drop hb), H.noq, d3 H.le⟩⟩
theorem pos_end {c : Int} {S : By} {R : List By} {i a : Nat} {p : By} {qs : List By} (H : Pos c S R i a p qs) (hi : ¬ i < R.length) : a = S.length := by
  have hl := H.lines
  rw [List.drop_eq_nil_of_le (by omega)] at hl
  obtain ⟨h1, h2⟩ := List.append_eq_nil_iff.1 hl.symm
  have hp : p = [] := by
    false_or_by_contra
    rename_i hp
    rw [parB_cons c hp] at h1
    simp at h1
  have hq : qs = [] := by
    cases qs with
    | nil => rfl
    | cons q qs =>
      rw [List.flatMap_cons] at h2
      exact absurd (List.append_eq_nil_iff.1 h2).1 (parE_ne c q)
  have ht := H.text
  rw [hp, hq, tl_nil, List.append_nil] at ht
  have := congrArg List.length ht
  rw [List.length_drop, List.length_nil] at this
  have := H.le
  omega

/-! ### cuts -/
theorem fit_ok (P : List (Nat × Nat)) {c : Int} (hc : 0 ≤ c) : (toC P (fit P c) : Int) ≤ c := by
  have key : ∀ k, k ≤ P.length → (∀ j, j < k → ¬ (c < (toC P (j + 1) : Int))) → (toC P k : Int) ≤ c := by
    intro k hk h
    cases k with
    | zero => rw [toC_zero]; omega
    | succ k => have := h k (by omega); omega
  unfold fit
  cases h : (List.range P.length).find? (fun k => decide (c < (toC P (k + 1) : Int))) with
  | none =>
    rw [List.find?_eq_none] at h
    exact key _ (Nat.le_refl _) (fun j hj => by have := h j (by simpa using hj); simpa using this)
  | some k =>
    rw [List.find?_range_eq_some] at h
    obtain ⟨_, h2, h3⟩ := h
    have hk : k < P.length := by simpa using h2
    exact key k (by omega) (fun j hj => by have := h3 j hj; simpa using this)
theorem tw_fits (s : ByteArray) {c : Int} (hc : 0 ≤ c) : (tw (fits s c).data.toList : Int) ≤ c := by
  unfold fits
  rw [take_bytes, (tw_piece _ (fit_le _ c)).1]
  exact fit_ok _ hc
theorem cut_ok (s : ByteArray) (c : Int) (m : ByteArray) : (tw (cutE s c m).1.data.toList : Int) ≤ max c 0 ∧ (cutE s c m).2 = decide (max c 0 < (tw s.data.toList : Int)) ∧ ((cutE s c m).2 = true ∨ (cutE s c m).1 = s) := by
  unfold cutE
  rw [total_tw, total_tw]
  have h0 : (0 : Int) ≤ max c 0 := Int.le_max_right _ _
  generalize max c 0 = d at *
  simp only
  split
  · rename_i h
    exact ⟨h, by simp; omega, .inr rfl⟩
  · rename_i h
    split
    · rename_i h2
      refine ⟨?_, by simp; omega, .inl rfl⟩
      show (tw (fits s (d - (tw m.data.toList : Int)) ++ m).data.toList : Int) ≤ d
      rw [ByteArray.data_append, Array.toList_append]
      have h3 := tw_sub _ (fits s (d - (tw m.data.toList : Int))).data.toList m.data.toList (Nat.le_refl _)
      have h4 := tw_fits s (c := d - (tw m.data.toList : Int)) (by omega)
      omega
    · exact ⟨tw_fits s h0, by simp; omega, .inl rfl⟩
end Go.Proofs.YtoelmcmdiamnnaaDoor
