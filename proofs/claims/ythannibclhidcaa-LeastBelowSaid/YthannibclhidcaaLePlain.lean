/- Layer 9: rounds over bounds, in plain Lean. -/
import Derived.Test.YthannibclhidcaaMem
namespace Go.Proofs.Ythannibclhidcaa
set_option linter.unusedVariables false
set_option linter.unusedSimpArgs false
open Go.RowKit

structure St where
  x : List Int
  m : List Int
  last : Int
def gi (X : List Int) (i : Int) : Int := X.getD i.toNat 0
def bk (L : List T3) (j : Nat) : T3 := L.getD j ⟨0, 0, 0⟩
def stepB (j : Nat) (b : T3) (s : St) : St := if gi s.x b.q < gi s.x b.p + b.r then ⟨s.x.set b.q.toNat (gi s.x b.p + b.r), s.m.set b.q.toNat (j : Int), b.q⟩ else s
def stepsB (L : List T3) : Nat → St → St
  | 0, s => s
  | i + 1, s => stepB i (bk L i) (stepsB L i s)
def roundB (L : List T3) (s : St) : St := stepsB L L.length ⟨s.x, s.m, -1⟩
def roundsB (L : List T3) : Nat → St → St
  | 0, s => s
  | f + 1, s => if (roundB L s).last = -1 then roundB L s else roundsB L f (roundB L s)
def start (n : Nat) : St := ⟨List.replicate n 0, List.replicate n (-1), -1⟩
def fin (n : Nat) (L : List T3) : St := roundsB L n (start n)
def okB (n : Nat) (b : T3) : Prop := (0 ≤ b.p ∧ b.p < n) ∧ (0 ≤ b.q ∧ b.q < n) ∧ (-1048576 ≤ b.r ∧ b.r ≤ 1048576)
def okL (n : Nat) (L : List T3) : Prop := ∀ j, j < L.length → okB n (bk L j)
def pn (L : List T3) (j : Nat) : Nat := (bk L j).p.toNat
def qn (L : List T3) (j : Nat) : Nat := (bk L j).q.toNat
def kept (L : List T3) (s : St) (j : Nat) : Prop := s.x.getD (pn L j) 0 + (bk L j).r ≤ s.x.getD (qn L j) 0

theorem getD_set (l : List Int) (i j : Nat) (a : Int) (h : i < l.length) : (l.set i a).getD j 0 = if j = i then a else l.getD j 0 := by
  simp only [List.getD, List.getElem?_set, h]
  by_cases e : i = j
  · subst e
    simp
  · simp [e, Ne.symm e]

structure Inv (n : Nat) (L : List T3) (K i : Nat) (s : St) (t : Nat → Nat) : Prop where
  xl : s.x.length = n
  ml : s.m.length = n
  tb : ∀ v, t v ≤ K + i
  bd : ∀ v, v < n → 0 ≤ s.x.getD v 0 ∧ s.x.getD v 0 ≤ ((K + i : Nat) : Int) * 1048576
  pr : ∀ v, v < n → (s.m.getD v 0 = -1 ∧ s.x.getD v 0 = 0 ∧ t v = 0) ∨ ∃ j : Nat, j < L.length ∧ s.m.getD v 0 = (j : Int) ∧ qn L j = v ∧ 1 ≤ t v ∧ t v ≤ t (pn L j) + L.length ∧ s.x.getD v 0 ≤ s.x.getD (pn L j) 0 + (bk L j).r ∧ (t v ≤ t (pn L j) → s.x.getD v 0 < s.x.getD (pn L j) 0 + (bk L j).r) ∧ 0 < s.x.getD v 0
  seen : ∀ j, j < i → kept L s j ∨ K + j + 1 ≤ t (pn L j)
  old : ∀ j, i ≤ j → j < L.length → kept L s j ∨ K + j + 1 ≤ t (pn L j) + L.length
  last : s.last = -1 ∧ (∀ v, t v ≤ K) ∨ ∃ v : Nat, v < n ∧ s.last = (v : Int) ∧ K < t v

theorem okB_pq {n : Nat} {L : List T3} (h : okL n L) {j : Nat} (hj : j < L.length) : pn L j < n ∧ qn L j < n ∧ ((pn L j : Nat) : Int) = (bk L j).p ∧ ((qn L j : Nat) : Int) = (bk L j).q := by
  have := h j hj
  unfold okB at this
  unfold pn qn
  omega

theorem Inv.step {n : Nat} {L : List T3} {K i : Nat} {s : St} {t : Nat → Nat} (h : Inv n L K i s t) (hL : okL n L) (hi : i < L.length) : ∃ t', Inv n L K (i + 1) (stepB i (bk L i) s) t' := by
  obtain ⟨hp, hq, ep, eq⟩ := okB_pq hL hi
  have hb := (hL i hi).2.2
  have hxl := h.xl
  have hml := h.ml
  unfold stepB
  have e1 : gi s.x (bk L i).q = s.x.getD (qn L i) 0 := rfl
  have e2 : gi s.x (bk L i).p = s.x.getD (pn L i) 0 := rfl
  rw [e1, e2]
  by_cases hot : s.x.getD (qn L i) 0 < s.x.getD (pn L i) 0 + (bk L i).r
  · rw [if_pos hot]
    have e3 : (bk L i).q.toNat = qn L i := rfl
    rw [e3]
    obtain ⟨y, hy⟩ : ∃ y, s.x.getD (pn L i) 0 + (bk L i).r = y := ⟨_, rfl⟩
    rw [hy] at hot ⊢
    have hX : ∀ v, (s.x.set (qn L i) y).getD v 0 = if v = qn L i then y else s.x.getD v 0 := fun v => getD_set _ _ _ _ (by omega)
    have hM : ∀ v, (s.m.set (qn L i) (i : Int)).getD v 0 = if v = qn L i then (i : Int) else s.m.getD v 0 := fun v => getD_set _ _ _ _ (by omega)
    have hpb := h.bd _ hp
    have hqb := h.bd _ hq
    have hkp : K + i + 1 ≤ t (pn L i) + L.length := by
      rcases h.old i (Nat.le_refl _) hi with hk | hk
      · unfold kept at hk
        omega
      · exact hk
    have htp := h.tb (pn L i)
    refine ⟨fun v => if v = qn L i then K + i + 1 else t v, by simpa using h.xl, by simpa using h.ml, fun v => ?_, fun v hv => ?_, fun v hv => ?_, fun j hj => ?_, fun j hj hj2 => ?_, .inr ⟨qn L i, hq, eq.symm, by simp; omega⟩⟩
    · have := h.tb v
      show (if v = qn L i then K + i + 1 else t v) ≤ K + (i + 1)
      split <;> omega
    · simp only [hX]
      have h1 := h.bd v hv
      have e : ((K + (i + 1) : Nat) : Int) * 1048576 = ((K + i : Nat) : Int) * 1048576 + 1048576 := by omega
      rw [e]
      split <;> omega
    · simp only [hX, hM]
      by_cases hvq : v = qn L i
      · right
        refine ⟨i, hi, by simp [hvq], hvq.symm, by simp [hvq], ?_, ?_, ?_, by simp [hvq]; omega⟩
        · simp only [hvq, if_true]
          split <;> omega
        · simp only [hvq, if_true]
          split
          · rename_i e
            rw [e] at hy
            omega
          · omega
        · intro hle
          simp only [hvq, if_true] at hle ⊢
          split
          · rename_i e
            rw [e] at hy
            omega
          · rename_i e
            rw [if_neg e] at hle
            omega
      · rcases h.pr v hv with ⟨a, b, c⟩ | ⟨j, hj, a, b, c, d, e, f, g⟩
        · exact .inl ⟨(if_neg hvq).trans a, (if_neg hvq).trans b, (if_neg hvq).trans c⟩
        · right
          have htj := h.tb (pn L j)
          have htv := h.tb v
          refine ⟨j, hj, (if_neg hvq).trans a, b, by rw [if_neg hvq]; exact c, ?_, ?_, ?_, by rw [if_neg hvq]; exact g⟩
          · simp only [hvq, if_false]
            split <;> omega
          · simp only [hvq, if_false]
            split
            · rename_i e'
              rw [e'] at e
              omega
            · exact e
          · simp only [hvq, if_false]
            split
            · rename_i e'
              rw [e'] at e
              intro _
              omega
            · exact f
    · unfold kept
      simp only [hX]
      have key : (K + j + 1 ≤ t (pn L j)) → K + j + 1 ≤ (if pn L j = qn L i then K + i + 1 else t (pn L j)) := fun hk => by
        have := h.tb (pn L j)
        split <;> omega
      by_cases hji : j = i
      · subst hji
        by_cases e : pn L j = qn L j
        · right
          simp [e]
        · left
          rw [if_neg e, if_pos rfl]
          omega
      · rcases h.seen j (by omega) with hk | hk
        · unfold kept at hk
          by_cases e : pn L j = qn L i
          · right
            simp [e]
            omega
          · left
            rw [if_neg e]
            split
            · rename_i e'
              rw [e'] at hk
              omega
            · exact hk
        · exact .inr (key hk)
    · unfold kept
      simp only [hX]
      rcases h.old j (by omega) hj2 with hk | hk
      · unfold kept at hk
        by_cases e : pn L j = qn L i
        · right
          simp [e]
          omega
        · left
          rw [if_neg e]
          split
          · rename_i e'
            rw [e'] at hk
            omega
          · exact hk
      · right
        have := h.tb (pn L j)
        split <;> omega
  · rw [if_neg hot]
    refine ⟨t, h.xl, h.ml, fun v => by have := h.tb v; omega, fun v hv => ?_, h.pr, fun j hj => ?_, fun j hj hj2 => h.old j (by omega) hj2, h.last⟩
    · have h1 := h.bd v hv
      have e : ((K + (i + 1) : Nat) : Int) * 1048576 = ((K + i : Nat) : Int) * 1048576 + 1048576 := by omega
      rw [e]
      omega
    · by_cases hji : j = i
      · subst hji
        left
        unfold kept
        omega
      · exact h.seen j (by omega)
theorem Inv.steps {n : Nat} {L : List T3} {K : Nat} {s : St} {t : Nat → Nat} (h : Inv n L K 0 s t) (hL : okL n L) : ∀ i, i ≤ L.length → ∃ t', Inv n L K i (stepsB L i s) t' := by
  intro i
  induction i with
  | zero => exact fun _ => ⟨t, h⟩
  | succ i ih =>
    intro hi
    obtain ⟨t1, h1⟩ := ih (by omega)
    exact h1.step hL (by omega)
theorem Inv.next {n : Nat} {L : List T3} {K : Nat} {s : St} {t : Nat → Nat} (h : Inv n L K L.length s t) : Inv n L (K + L.length) 0 ⟨s.x, s.m, -1⟩ t := by
  refine ⟨h.xl, h.ml, h.tb, h.bd, h.pr, fun j hj => by omega, fun j _ hj => ?_, .inl ⟨rfl, h.tb⟩⟩
  rcases h.seen j hj with hk | hk
  · exact .inl hk
  · exact .inr (by omega)
theorem Inv.start (n : Nat) (L : List T3) : Inv n L 0 0 (start n) (fun _ => 0) := by
  refine ⟨by simp [Go.Proofs.Ythannibclhidcaa.start], by simp [Go.Proofs.Ythannibclhidcaa.start], fun v => by omega, fun v hv => ?_, fun v hv => .inl ⟨?_, ?_, rfl⟩, fun j hj => by omega, fun j _ hj => .inr (by omega), .inl ⟨rfl, fun v => by omega⟩⟩
  · simp [Go.Proofs.Ythannibclhidcaa.start, List.getD, hv]
  · simp [Go.Proofs.Ythannibclhidcaa.start, List.getD, hv]
  · simp [Go.Proofs.Ythannibclhidcaa.start, List.getD, hv]
theorem Inv.round {n : Nat} {L : List T3} {K : Nat} {s : St} {t : Nat → Nat} (h : Inv n L K 0 ⟨s.x, s.m, -1⟩ t) (hL : okL n L) : ∃ t', Inv n L K L.length (roundB L s) t' := h.steps hL _ (Nat.le_refl _)
theorem Inv.rounds {n : Nat} {L : List T3} (hL : okL n L) : ∀ (f K : Nat) (s : St) (t : Nat → Nat), Inv n L K 0 ⟨s.x, s.m, -1⟩ t → ∃ K' t', Inv n L K' L.length (roundsB L (f + 1) s) t' ∧ ((roundsB L (f + 1) s).last = -1 ∨ K' = K + f * L.length) ∧ K' ≤ K + f * L.length := by
  intro f
  induction f with
  | zero =>
    intro K s t h
    obtain ⟨t1, h1⟩ := h.round hL
    refine ⟨K, t1, ?_, .inr (by omega), by omega⟩
    unfold roundsB
    split <;> exact h1
  | succ f ih =>
    intro K s t h
    obtain ⟨t1, h1⟩ := h.round hL
    unfold roundsB
    have e : K + (f + 1) * L.length = (K + L.length) + f * L.length := by rw [Nat.add_mul]; omega
    split
    · rename_i hl
      exact ⟨K, t1, h1, .inl hl, by rw [e]; omega⟩
    · obtain ⟨K2, t2, h2, h3, h4⟩ := ih (K + L.length) (roundB L s) t1 h1.next
      rw [e]
      exact ⟨K2, t2, h2, h3, h4⟩
theorem fin_inv {n : Nat} {L : List T3} (hL : okL n L) : ∃ K t, Inv n L K L.length (fin n L) t ∧ ((fin n L).last = -1 ∨ 0 < n ∧ K = (n - 1) * L.length) ∧ K ≤ n * L.length := by
  cases n with
  | zero =>
    have h0 : L.length = 0 := by
      rcases Nat.eq_zero_or_pos L.length with h | h
      · exact h
      · have := hL 0 h
        unfold okB at this
        omega
    refine ⟨0, fun _ => 0, ?_, .inl rfl, Nat.zero_le _⟩
    rw [h0]
    exact Inv.start 0 L
  | succ n =>
    obtain ⟨K, t, h1, h2, h3⟩ := Inv.rounds hL n 0 (Go.Proofs.Ythannibclhidcaa.start (n + 1)) _ (Inv.start (n + 1) L)
    refine ⟨K, t, h1, ?_, ?_⟩
    · rcases h2 with h2 | h2
      · exact .inl h2
      · exact .inr ⟨by omega, by simp [h2]⟩
    · rw [Nat.add_mul]
      omega
/-! All bounds are kept where the last round changed nothing. -/
theorem Inv.kept {n : Nat} {L : List T3} {K : Nat} {s : St} {t : Nat → Nat} (h : Inv n L K L.length s t) (hl : s.last = -1) : ∀ j, j < L.length → kept L s j := by
  intro j hj
  have ht : ∀ v, t v ≤ K := by
    rcases h.last with ⟨_, h1⟩ | ⟨v, _, h1, _⟩
    · exact h1
    · omega
  rcases h.seen j hj with h1 | h1
  · exact h1
  · have := ht (pn L j)
    omega
/-- What is above 0 is held up by a bound that is kept just so. -/
theorem Inv.held {n : Nat} {L : List T3} {K : Nat} {s : St} {t : Nat → Nat} (h : Inv n L K L.length s t) (hl : s.last = -1) {v : Nat} (hv : v < n) (hp : 0 < s.x.getD v 0) : ∃ j, j < L.length ∧ qn L j = v ∧ s.x.getD v 0 = s.x.getD (pn L j) 0 + (bk L j).r := by
  rcases h.pr v hv with ⟨_, h1, _⟩ | ⟨j, hj, a, b, c, d, e, f, g⟩
  · omega
  · refine ⟨j, hj, b, ?_⟩
    have := h.kept hl j hj
    unfold Go.Proofs.Ythannibclhidcaa.kept at this
    rw [b] at this
    omega
/-! They are below all others. -/
def sols (n : Nat) (L : List T3) (y : Nat → Int) : Prop := ∀ j, j < L.length → y (pn L j) + (bk L j).r ≤ y (qn L j)
theorem step_le {n : Nat} {L : List T3} {y : Nat → Int} (hy : sols n L y) (hL : okL n L) {i : Nat} (hi : i < L.length) {s : St} (hxl : s.x.length = n) (h : ∀ v, v < n → s.x.getD v 0 ≤ y v) : ∀ v, v < n → (stepB i (bk L i) s).x.getD v 0 ≤ y v := by
  intro v hv
  obtain ⟨hp, hq, _, _⟩ := okB_pq hL hi
  unfold stepB
  split
  · have e3 : (bk L i).q.toNat = qn L i := rfl
    have e2 : gi s.x (bk L i).p = s.x.getD (pn L i) 0 := rfl
    simp only [e3, e2]
    rw [getD_set _ _ _ _ (by omega)]
    split
    · rename_i e
      subst e
      have := hy i hi
      have := h _ hp
      omega
    · exact h v hv
  · exact h v hv
theorem step_len (i : Nat) (b : T3) (s : St) : (stepB i b s).x.length = s.x.length ∧ (stepB i b s).m.length = s.m.length := by
  unfold stepB
  split <;> simp
theorem steps_len (L : List T3) (s : St) : ∀ i, (stepsB L i s).x.length = s.x.length ∧ (stepsB L i s).m.length = s.m.length := by
  intro i
  induction i with
  | zero => exact ⟨rfl, rfl⟩
  | succ i ih => 
    have := step_len i (bk L i) (stepsB L i s)
    exact ⟨this.1.trans ih.1, this.2.trans ih.2⟩
theorem steps_le {n : Nat} {L : List T3} {y : Nat → Int} (hy : sols n L y) (hL : okL n L) {s : St} (hxl : s.x.length = n) (h : ∀ v, v < n → s.x.getD v 0 ≤ y v) : ∀ i, i ≤ L.length → ∀ v, v < n → (stepsB L i s).x.getD v 0 ≤ y v := by
  intro i
  induction i with
  | zero => exact fun _ => h
  | succ i ih => exact fun hi => step_le hy hL (by omega) ((steps_len L s i).1.trans hxl) (ih (by omega))
theorem rounds_le {n : Nat} {L : List T3} {y : Nat → Int} (hy : sols n L y) (hL : okL n L) : ∀ (f : Nat) (s : St), s.x.length = n → (∀ v, v < n → s.x.getD v 0 ≤ y v) → ∀ v, v < n → (roundsB L f s).x.getD v 0 ≤ y v := by
  intro f
  induction f with
  | zero => exact fun s _ h => h
  | succ f ih =>
    intro s hx h
    have h1 : ∀ v, v < n → (roundB L s).x.getD v 0 ≤ y v := steps_le (s := ⟨s.x, s.m, -1⟩) hy hL hx h _ (Nat.le_refl _)
    have h2 : (roundB L s).x.length = n := ((steps_len L ⟨s.x, s.m, -1⟩ L.length).1).trans hx
    unfold roundsB
    split
    · exact h1
    · exact ih _ h2 h1
theorem fin_le {n : Nat} {L : List T3} {y : Nat → Int} (hy : sols n L y) (hL : okL n L) (h0 : ∀ v, v < n → 0 ≤ y v) : ∀ v, v < n → (fin n L).x.getD v 0 ≤ y v :=
  rounds_le hy hL n (start n) (by simp [start]) fun v hv => by
    have : (start n).x.getD v 0 = 0 := by simp [start, List.getD, hv]
    rw [this]
    exact h0 v hv
theorem rounds_len (L : List T3) : ∀ (f : Nat) (s : St), (roundsB L f s).x.length = s.x.length ∧ (roundsB L f s).m.length = s.m.length := by
  intro f
  induction f with
  | zero => exact fun s => ⟨rfl, rfl⟩
  | succ f ih =>
    intro s
    have h2 := steps_len L ⟨s.x, s.m, -1⟩ L.length
    unfold roundsB
    split
    · exact h2
    · exact ⟨(ih _).1.trans h2.1, (ih _).2.trans h2.2⟩
theorem fin_len (n : Nat) (L : List T3) : (fin n L).x.length = n ∧ (fin n L).m.length = n := by
  have := rounds_len L n (start n)
  simp [start] at this
  exact this
end Go.Proofs.Ythannibclhidcaa
