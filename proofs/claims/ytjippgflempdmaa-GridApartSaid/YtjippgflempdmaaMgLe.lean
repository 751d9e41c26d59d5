/- Layer 9: rounds over bounds, in plain Lean. -/
import Derived.Test.YtjippgflempdmaaMgBase
import Derived.Test.YtjippgflempdmaaMgFlex
namespace Go.Proofs.Ytjippgflempdmaa
set_option linter.unusedVariables false
set_option linter.unusedSimpArgs false
set_option maxRecDepth 100000
open Go.RowKit

structure St where
  x : List Int
  m : List Int
  last : Int
def gi (X : List Int) (i : Int) : Int := X.getD i.toNat 0
def bk (L : List T3) (j : Nat) : T3 := L.getD j ⟨0, 0, 0⟩
def stepB (j : Nat) (b : T3) (s : St) : St := if gi s.x b.q < gi s.x b.p + b.r then ⟨s.x.set b.q.toNat (gi s.x b.p + b.r), s.m.set b.q.toNat (j : Int), b.q⟩ else s
def stepsB (L : List T3) : Nat → St → St
  | 0, s => s
  | i + 1, s => stepB i (bk L i) (stepsB L i s)
def roundB (L : List T3) (s : St) : St := stepsB L L.length ⟨s.x, s.m, -1⟩
def roundsB (L : List T3) : Nat → St → St
  | 0, s => s
  | f + 1, s => if (roundB L s).last = -1 then roundB L s else roundsB L f (roundB L s)
def start (n : Nat) : St := ⟨List.replicate n 0, List.replicate n (-1), -1⟩
def fin (n : Nat) (L : List T3) : St := roundsB L n (start n)
def okB (n : Nat) (b : T3) : Prop := (0 ≤ b.p ∧ b.p < n) ∧ (0 ≤ b.q ∧ b.q < n) ∧ (-1048576 ≤ b.r ∧ b.r ≤ 1048576)
def okL (n : Nat) (L : List T3) : Prop := ∀ j, j < L.length → okB n (bk L j)
def pn (L : List T3) (j : Nat) : Nat := (bk L j).p.toNat
def qn (L : List T3) (j : Nat) : Nat := (bk L j).q.toNat
def kept (L : List T3) (s : St) (j : Nat) : Prop := s.x.getD (pn L j) 0 + (bk L j).r ≤ s.x.getD (qn L j) 0

theorem getD_set (l : List Int) (i j : Nat) (a : Int) (h : i < l.length) : (l.set i a).getD j 0 = if j = i then a else l.getD j 0 := by
  simp only [List.getD, List.getElem?_set, h]
  by_cases e : i = j
  · subst e
    simp
  · simp [e, Ne.symm e]

structure Inv (n : Nat) (L : List T3) (K i : Nat) (s : St) (t : Nat → Nat) : Prop where
  xl : s.x.length = n
  ml : s.m.length = n
  tb : ∀ v, t v ≤ K + i
  bd : ∀ v, v < n → 0 ≤ s.x.getD v 0 ∧ s.x.getD v 0 ≤ ((K + i : Nat) : Int) * 1048576
  pr : ∀ v, v < n → (s.m.getD v 0 = -1 ∧ s.x.getD v 0 = 0 ∧ t v = 0) ∨ ∃ j : Nat, j < L.length ∧ s.m.getD v 0 = (j : Int) ∧ qn L j = v ∧ 1 ≤ t v ∧ t v ≤ t (pn L j) + L.length ∧ s.x.getD v 0 ≤ s.x.getD (pn L j) 0 + (bk L j).r ∧ (t v ≤ t (pn L j) → s.x.getD v 0 < s.x.getD (pn L j) 0 + (bk L j).r) ∧ 0 < s.x.getD v 0
  seen : ∀ j, j < i → kept L s j ∨ K + j + 1 ≤ t (pn L j)
  old : ∀ j, i ≤ j → j < L.length → kept L s j ∨ K + j + 1 ≤ t (pn L j) + L.length
  last : s.last = -1 ∧ (∀ v, t v ≤ K) ∨ ∃ v : Nat, v < n ∧ s.last = (v : Int) ∧ K < t v

theorem okB_pq {n : Nat} {L : List T3} (h : okL n L) {j : Nat} (hj : j < L.length) : pn L j < n ∧ qn L j < n ∧ ((pn L j : Nat) : Int) = (bk L j).p ∧ ((qn L j : Nat) : Int) = (bk L j).q := by
  have := h j hj
  unfold okB at this
  unfold pn qn
  omega

theorem Inv.step {n : Nat} {L : List T3} {K i : Nat} {s : St} {t : Nat → Nat} (h : Inv n L K i s t) (hL : okL n L) (hi : i < L.length) : ∃ t', Inv n L K (i + 1) (stepB i (bk L i) s) t' := by
  obtain ⟨hp, hq, ep, eq⟩ := okB_pq hL hi
  have hb := (hL i hi).2.2
  have hxl := h.xl
  have hml := h.ml
  unfold stepB
  have e1 : gi s.x (bk L i).q = s.x.getD (qn L i) 0 := rfl
  have e2 : gi s.x (bk L i).p = s.x.getD (pn L i) 0 := rfl
  rw [e1, e2]
  by_cases hot : s.x.getD (qn L i) 0 < s.x.getD (pn L i) 0 + (bk L i).r
  · rw [if_pos hot]
    have e3 : (bk L i).q.toNat = qn L i := rfl
    rw [e3]
    obtain ⟨y, hy⟩ : ∃ y, s.x.getD (pn L i) 0 + (bk L i).r = y := ⟨_, rfl⟩
    rw [hy] at hot ⊢
    have hX : ∀ v, (s.x.set (qn L i) y).getD v 0 = if v = qn L i then y else s.x.getD v 0 := fun v => getD_set _ _ _ _ (by omega)
    have hM : ∀ v, (s.m.set (qn L i) (i : Int)).getD v 0 = if v = qn L i then (i : Int) else s.m.getD v 0 := fun v => getD_set _ _ _ _ (by omega)
    have hpb := h.bd _ hp
    have hqb := h.bd _ hq
    have hkp : K + i + 1 ≤ t (pn L i) + L.length := by
      rcases h.old i (Nat.le_refl _) hi with hk | hk
      · unfold kept at hk
        omega
      · exact hk
    have htp := h.tb (pn L i)
    refine ⟨fun v => if v = qn L i then K + i + 1 else t v, by simpa using h.xl, by simpa using h.ml, fun v => ?_, fun v hv => ?_, fun v hv => ?_, fun j hj => ?_, fun j hj hj2 => ?_, .inr ⟨qn L i, hq, eq.symm, by simp; omega⟩⟩
    · have := h.tb v
      show (if v = qn L i then K + i + 1 else t v) ≤ K + (i + 1)
      split <;> omega
    · simp only [hX]
      have h1 := h.bd v hv
      have e : ((K + (i + 1) : Nat) : Int) * 1048576 = ((K + i : Nat) : Int) * 1048576 + 1048576 := by omega
      rw [e]
      split <;> omega
    · simp only [hX, hM]
      by_cases hvq : v = qn L i
      · right
        refine ⟨i, hi, by simp [hvq], hvq.symm, by simp [hvq], ?_, ?_, ?_, by simp [hvq]; omega⟩
        · simp only [hvq, if_true]
          split <;> omega
        · simp only [hvq, if_true]
          split
          · rename_i e
            rw [e] at hy
            omega
          · omega
        · intro hle
          simp only [hvq, if_true] at hle ⊢
          split
          · rename_i e
            rw [e] at hy
            omega
          · rename_i e
            rw [if_neg e] at hle
            omega
      · rcases h.pr v hv with ⟨a, b, c⟩ | ⟨j, hj, a, b, c, d, e, f, g⟩
        · exact .inl ⟨(if_neg hvq).trans a, (if_neg hvq).trans b, (if_neg hvq).trans c⟩
        · right
          have htj := h.tb (pn L j)
          have htv := h.tb v
          refine ⟨j, hj, (if_neg hvq).trans a, b, by rw [if_neg hvq]; exact c, ?_, ?_, ?_, by rw [if_neg hvq]; exact g⟩
          · simp only [hvq, if_false]
            split <;> omega
          · simp only [hvq, if_false]
            split
            · rename_i e'
              rw [e'] at e
              omega
            · exact e
          · simp only [hvq, if_false]
            split
            · rename_i e'
              rw [e'] at e
              intro _
              omega
            · exact f
    · unfold kept
      simp only [hX]
      have key : (K + j + 1 ≤ t (pn L j)) → K + j + 1 ≤ (if pn L j = qn L i then K + i + 1 else t (pn L j)) := fun hk => by
        have := h.tb (pn L j)
        split <;> omega
      by_cases hji : j = i
      · subst hji
        by_cases e : pn L j = qn L j
        · right
          simp [e]
        · left
          rw [if_neg e, if_pos rfl]
          omega
      · rcases h.seen j (by omega) with hk | hk
        · unfold kept at hk
          by_cases e : pn L j = qn L i
          · right
            simp [e]
            omega
          · left
            rw [if_neg e]
            split
            · rename_i e'
              rw [e'] at hk
              omega
            · exact hk
        · exact .inr (key hk)
    · unfold kept
      simp only [hX]
      rcases h.old j (by omega) hj2 with hk | hk
      · unfold kept at hk
        by_cases e : pn L j = qn L i
        · right
          simp [e]
          omega
        · left
          rw [if_neg e]
          split
          · rename_i e'
            rw [e'] at hk
            omega
          · exact hk
      · right
        have := h.tb (pn L j)
        split <;> omega
  · rw [if_neg hot]
    refine ⟨t, h.xl, h.ml, fun v => by have := h.tb v; omega, fun v hv => ?_, h.pr, fun j hj => ?_, fun j hj hj2 => h.old j (by omega) hj2, h.last⟩
    · have h1 := h.bd v hv
      have e : ((K + (i + 1) : Nat) : Int) * 1048576 = ((K + i : Nat) : Int) * 1048576 + 1048576 := by omega
      rw [e]
      omega
    · by_cases hji : j = i
      · subst hji
        left
        unfold kept
        omega
      · exact h.seen j (by omega)
theorem Inv.steps {n : Nat} {L : List T3} {K : Nat} {s : St} {t : Nat → Nat} (h : Inv n L K 0 s t) (hL : okL n L) : ∀ i, i ≤ L.length → ∃ t', Inv n L K i (stepsB L i s) t' := by
  intro i
  induction i with
  | zero => exact fun _ => ⟨t, h⟩
  | succ i ih =>
    intro hi
    obtain ⟨t1, h1⟩ := ih (by omega)
    exact h1.step hL (by omega)
theorem Inv.next {n : Nat} {L : List T3} {K : Nat} {s : St} {t : Nat → Nat} (h : Inv n L K L.length s t) : Inv n L (K + L.length) 0 ⟨s.x, s.m, -1⟩ t := by
  refine ⟨h.xl, h.ml, h.tb, h.bd, h.pr, fun j hj => by omega, fun j _ hj => ?_, .inl ⟨rfl, h.tb⟩⟩
  rcases h.seen j hj with hk | hk
  · exact .inl hk
  · exact .inr (by omega)
theorem Inv.start (n : Nat) (L : List T3) : Inv n L 0 0 (start n) (fun _ => 0) := by
  refine ⟨by simp [Go.Proofs.Ytjippgflempdmaa.start], by simp [Go.Proofs.Ytjippgflempdmaa.start], fun v => by omega, fun v hv => ?_, fun v hv => .inl ⟨?_, ?_, rfl⟩, fun j hj => by omega, fun j _ hj => .inr (by omega), .inl ⟨rfl, fun v => by omega⟩⟩
  · simp [Go.Proofs.Ytjippgflempdmaa.start, List.getD, hv]
  · simp [Go.Proofs.Ytjippgflempdmaa.start, List.getD, hv]
  · simp [Go.Proofs.Ytjippgflempdmaa.start, List.getD, hv]
theorem Inv.round {n : Nat} {L : List T3} {K : Nat} {s : St} {t : Nat → Nat} (h : Inv n L K 0 ⟨s.x, s.m, -1⟩ t) (hL : okL n L) : ∃ t', Inv n L K L.length (roundB L s) t' := h.steps hL _ (Nat.le_refl _)
theorem Inv.rounds {n : Nat} {L : List T3} (hL : okL n L) : ∀ (f K : Nat) (s : St) (t : Nat → Nat), Inv n L K 0 ⟨s.x, s.m, -1⟩ t → ∃ K' t', Inv n L K' L.length (roundsB L (f + 1) s) t' ∧ ((roundsB L (f + 1) s).last = -1 ∨ K' = K + f * L.length) ∧ K' ≤ K + f * L.length := by
  intro f
  induction f with
  | zero =>
    intro K s t h
    obtain ⟨t1, h1⟩ := h.round hL
    refine ⟨K, t1, ?_, .inr (by omega), by omega⟩
    unfold roundsB
    split <;> exact h1
  | succ f ih =>
    intro K s t h
    obtain ⟨t1, h1⟩ := h.round hL
    unfold roundsB
    have e : K + (f + 1) * L.length = (K + L.length) + f * L.length := by rw [Nat.add_mul]; omega
    split
    · rename_i hl
      exact ⟨K, t1, h1, .inl hl, by rw [e]; omega⟩
    · obtain ⟨K2, t2, h2, h3, h4⟩ := ih (K + L.length) (roundB L s) t1 h1.next
      rw [e]
      exact ⟨K2, t2, h2, h3, h4⟩
theorem fin_inv {n : Nat} {L : List T3} (hL : okL n L) : ∃ K t, Inv n L K L.length (fin n L) t ∧ ((fin n L).last = -1 ∨ 0 < n ∧ K = (n - 1) * L.length) ∧ K ≤ n * L.length := by
  cases n with
  | zero =>
    have h0 : L.length = 0 := by
      rcases Nat.eq_zero_or_pos L.length with h | h
      · exact h
      · have := hL 0 h
        unfold okB at this
        omega
    refine ⟨0, fun _ => 0, ?_, .inl rfl, Nat.zero_le _⟩
    rw [h0]
    exact Inv.start 0 L
  | succ n =>
    obtain ⟨K, t, h1, h2, h3⟩ := Inv.rounds hL n 0 (Go.Proofs.Ytjippgflempdmaa.start (n + 1)) _ (Inv.start (n + 1) L)
    refine ⟨K, t, h1, ?_, ?_⟩
    · rcases h2 with h2 | h2
      · exact .inl h2
      · exact .inr ⟨by omega, by simp [h2]⟩
    · rw [Nat.add_mul]
      omega
/-! All bounds are kept where the last round changed nothing. -/
theorem Inv.kept {n : Nat} {L : List T3} {K : Nat} {s : St} {t : Nat → Nat} (h : Inv n L K L.length s t) (hl : s.last = -1) : ∀ j, j < L.length → kept L s j := by
  intro j hj
  have ht : ∀ v, t v ≤ K := by
    rcases h.last with ⟨_, h1⟩ | ⟨v, _, h1, _⟩
    · exact h1
    · omega
  rcases h.seen j hj with h1 | h1
  · exact h1
  · have := ht (pn L j)
    omega
/-- What is above 0 is held up by a bound that is kept just so. -/
theorem Inv.held {n : Nat} {L : List T3} {K : Nat} {s : St} {t : Nat → Nat} (h : Inv n L K L.length s t) (hl : s.last = -1) {v : Nat} (hv : v < n) (hp : 0 < s.x.getD v 0) : ∃ j, j < L.length ∧ qn L j = v ∧ s.x.getD v 0 = s.x.getD (pn L j) 0 + (bk L j).r := by
  rcases h.pr v hv with ⟨_, h1, _⟩ | ⟨j, hj, a, b, c, d, e, f, g⟩
  · omega
  · refine ⟨j, hj, b, ?_⟩
    have := h.kept hl j hj
    unfold Go.Proofs.Ytjippgflempdmaa.kept at this
    rw [b] at this
    omega
/-! They are below all others. -/
def sols (n : Nat) (L : List T3) (y : Nat → Int) : Prop := ∀ j, j < L.length → y (pn L j) + (bk L j).r ≤ y (qn L j)
theorem step_le {n : Nat} {L : List T3} {y : Nat → Int} (hy : sols n L y) (hL : okL n L) {i : Nat} (hi : i < L.length) {s : St} (hxl : s.x.length = n) (h : ∀ v, v < n → s.x.getD v 0 ≤ y v) : ∀ v, v < n → (stepB i (bk L i) s).x.getD v 0 ≤ y v := by
  intro v hv
  obtain ⟨hp, hq, _, _⟩ := okB_pq hL hi
  unfold stepB
  split
  · have e3 : (bk L i).q.toNat = qn L i := rfl
    have e2 : gi s.x (bk L i).p = s.x.getD (pn L i) 0 := rfl
    simp only [e3, e2]
    rw [getD_set _ _ _ _ (by omega)]
    split
    · rename_i e
      subst e
      have := hy i hi
      have := h _ hp
      omega
    · exact h v hv
  · exact h v hv
theorem step_len (i : Nat) (b : T3) (s : St) : (stepB i b s).x.length = s.x.length ∧ (stepB i b s).m.length = s.m.length := by
  unfold stepB
  split <;> simp
theorem steps_len (L : List T3) (s : St) : ∀ i, (stepsB L i s).x.length = s.x.length ∧ (stepsB L i s).m.length = s.m.length := by
  intro i
  induction i with
  | zero => exact ⟨rfl, rfl⟩
  | succ i ih => 
    have := step_len i (bk L i) (stepsB L i s)
    exact ⟨this.1.trans ih.1, this.2.trans ih.2⟩
theorem steps_le {n : Nat} {L : List T3} {y : Nat → Int} (hy : sols n L y) (hL : okL n L) {s : St} (hxl : s.x.length = n) (h : ∀ v, v < n → s.x.getD v 0 ≤ y v) : ∀ i, i ≤ L.length → ∀ v, v < n → (stepsB L i s).x.getD v 0 ≤ y v := by
  intro i
  induction i with
  | zero => exact fun _ => h
  | succ i ih => exact fun hi => step_le hy hL (by omega) ((steps_len L s i).1.trans hxl) (ih (by omega))
theorem rounds_le {n : Nat} {L : List T3} {y : Nat → Int} (hy : sols n L y) (hL : okL n L) : ∀ (f : Nat) (s : St), s.x.length = n → (∀ v, v < n → s.x.getD v 0 ≤ y v) → ∀ v, v < n → (roundsB L f s).x.getD v 0 ≤ y v := by
  intro f
  induction f with
  | zero => exact fun s _ h => h
  | succ f ih =>
    intro s hx h
    have h1 : ∀ v, v < n → (roundB L s).x.getD v 0 ≤ y v := steps_le (s := ⟨s.x, s.m, -1⟩) hy hL hx h _ (Nat.le_refl _)
    have h2 : (roundB L s).x.length = n := ((steps_len L ⟨s.x, s.m, -1⟩ L.length).1).trans hx
    unfold roundsB
    split
    · exact h1
    · exact ih _ h2 h1
theorem fin_le {n : Nat} {L : List T3} {y : Nat → Int} (hy : sols n L y) (hL : okL n L) (h0 : ∀ v, v < n → 0 ≤ y v) : ∀ v, v < n → (fin n L).x.getD v 0 ≤ y v :=
  rounds_le hy hL n (start n) (by simp [start]) fun v hv => by
    have : (start n).x.getD v 0 = 0 := by simp [start, List.getD, hv]
    rw [this]
    exact h0 v hv
theorem rounds_len (L : List T3) : ∀ (f : Nat) (s : St), (roundsB L f s).x.length = s.x.length ∧ (roundsB L f s).m.length = s.m.length := by
  intro f
  induction f with
  | zero => exact fun s => ⟨rfl, rfl⟩
  | succ f ih =>
    intro s
    have h2 := steps_len L ⟨s.x, s.m, -1⟩ L.length
    unfold roundsB
    split
    · exact h2
    · exact ⟨(ih _).1.trans h2.1, (ih _).2.trans h2.2⟩
theorem fin_len (n : Nat) (L : List T3) : (fin n L).x.length = n ∧ (fin n L).m.length = n := by
  have := rounds_len L n (start n)
  simp [start] at this
  exact this
end Go.Proofs.Ytjippgflempdmaa

/- Layer 9: what walks back goes round, in plain Lean. -/
namespace Go.Proofs.Ytjippgflempdmaa
set_option linter.unusedVariables false
set_option linter.unusedSimpArgs false
set_option maxRecDepth 100000
open Go.RowKit

theorem pigeon : ∀ (n : Nat) (f : Nat → Nat), (∀ a, a ≤ n → f a < n) → ∃ i j, i < j ∧ j ≤ n ∧ f i = f j := by
  intro n
  induction n with
  | zero => intro f h; have := h 0 (Nat.le_refl _); omega
  | succ n ih =>
    intro f h
    by_cases hc : ∃ a, a ≤ n ∧ f a = f (n + 1)
    · obtain ⟨a, ha, e⟩ := hc
      exact ⟨a, n + 1, by omega, Nat.le_refl _, e⟩
    · have hne : ∀ a, a ≤ n → f a ≠ f (n + 1) := fun a ha e => hc ⟨a, ha, e⟩
      have hn1 := h (n + 1) (Nat.le_refl _)
      obtain ⟨i, j, hij, hj, e⟩ := ih (fun a => if f a = n then f (n + 1) else f a) (fun a ha => by
        have h1 := h a (by omega)
        have h2 := hne a ha
        show (if f a = n then f (n + 1) else f a) < n
        split <;> omega)
      refine ⟨i, j, hij, by omega, ?_⟩
      have hi2 := hne i (by omega)
      have hj2 := hne j (by omega)
      (try simp only at e)
      by_cases e1 : f i = n
      · by_cases e2 : f j = n
        · omega
        · rw [if_pos e1, if_neg e2] at e
          omega
      · by_cases e2 : f j = n
        · rw [if_neg e1, if_pos e2] at e
          omega
        · rw [if_neg e1, if_neg e2] at e
          exact e

def bkw (L : List T3) (s : St) (v : Nat) : Nat := pn L (s.m.getD v 0).toNat
def itB (L : List T3) (s : St) : Nat → Nat → Nat
  | 0, v => v
  | a + 1, v => bkw L s (itB L s a v)
theorem it_add (L : List T3) (s : St) (a b v : Nat) : itB L s (a + b) v = itB L s a (itB L s b v) := by
  induction a with
  | zero => rw [Nat.zero_add]; rfl
  | succ a ih =>
    rw [Nat.add_right_comm]
    simp only [itB, ih]
theorem it_comm (L : List T3) (s : St) (a b v : Nat) : itB L s a (itB L s b v) = itB L s b (itB L s a v) := by
  rw [← it_add, ← it_add, Nat.add_comm]

/-- A number that was changed: by which bound, and what holds of it. -/
structure Has (n : Nat) (L : List T3) (s : St) (t : Nat → Nat) (v j : Nat) : Prop where
  vn : v < n
  jl : j < L.length
  made : s.m.getD v 0 = (j : Int)
  qv : qn L j = v
  tle : t v ≤ t (pn L j) + L.length
  xle : s.x.getD v 0 ≤ s.x.getD (pn L j) 0 + (bk L j).r
  xlt : t v ≤ t (pn L j) → s.x.getD v 0 < s.x.getD (pn L j) 0 + (bk L j).r
theorem Has.bkw {n : Nat} {L : List T3} {s : St} {t : Nat → Nat} {v j : Nat} (h : Has n L s t v j) : bkw L s v = pn L j := by
  unfold Go.Proofs.Ytjippgflempdmaa.bkw
  rw [h.made]
  rfl
theorem Inv.has {n : Nat} {L : List T3} {K i : Nat} {s : St} {t : Nat → Nat} (h : Inv n L K i s t) {v : Nat} (hv : v < n) (ht : 1 ≤ t v) : ∃ j, Has n L s t v j := by
  rcases h.pr v hv with ⟨_, _, h1⟩ | ⟨j, hj, a, b, c, d, e, f, g⟩
  · omega
  · exact ⟨j, hv, hj, a, b, d, e, f⟩
theorem Inv.chain {n : Nat} {L : List T3} {K i : Nat} {s : St} {t : Nat → Nat} (h : Inv n L K i s t) (hL : okL n L) {v : Nat} (hv : v < n) (ht : (n - 1) * L.length < t v) : ∀ a, a ≤ n → itB L s a v < n ∧ (n - 1) * L.length < t (itB L s a v) + a * L.length := by
  intro a
  induction a with
  | zero => exact fun _ => ⟨hv, by rw [Nat.zero_mul]; exact ht⟩
  | succ a ih =>
    intro ha
    obtain ⟨h1, h2⟩ := ih (by omega)
    have h3 : a * L.length ≤ (n - 1) * L.length := Nat.mul_le_mul_right _ (by omega)
    obtain ⟨j, hj⟩ := h.has h1 (by omega)
    have h4 := hj.bkw
    have h5 := hj.tle
    obtain ⟨hp, _, _, _⟩ := okB_pq hL hj.jl
    show Go.Proofs.Ytjippgflempdmaa.bkw L s (itB L s a v) < n ∧ _ < t (Go.Proofs.Ytjippgflempdmaa.bkw L s (itB L s a v)) + _
    rw [h4]
    rw [Nat.add_mul]
    exact ⟨hp, by omega⟩
/-- A round: p steps back lead from u to u, by bounds all the way, and no fewer do. -/
structure Cyc (n : Nat) (L : List T3) (s : St) (t : Nat → Nat) (u p : Nat) : Prop where
  pos : 1 ≤ p
  back : itB L s p u = u
  has : ∀ a, ∃ j, Has n L s t (itB L s a u) j
  min : ∀ q, 1 ≤ q → q < p → itB L s q u ≠ u
theorem least_nat {P : Nat → Prop} (h : ∃ n, P n) : ∃ n, P n ∧ ∀ m, m < n → ¬ P m := by
  obtain ⟨n, hn⟩ := h
  induction n using Nat.strongRecOn with
  | ind n ih =>
    by_cases hm : ∃ m, m < n ∧ P m
    · obtain ⟨m, h1, h2⟩ := hm
      exact ih m h1 h2
    · exact ⟨n, hn, fun m h1 h2 => hm ⟨m, h1, h2⟩⟩
theorem it_mul {L : List T3} {s : St} {p u : Nat} (h : itB L s p u = u) : ∀ k, itB L s (k * p) u = u := by
  intro k
  induction k with
  | zero => rw [Nat.zero_mul]; rfl
  | succ k ih => rw [Nat.add_mul, Nat.one_mul, it_add, h, ih]
theorem it_mod {L : List T3} {s : St} {p u : Nat} (h : itB L s p u = u) (a : Nat) : itB L s a u = itB L s (a % p) u := by
  have e := Nat.mod_add_div a p
  rw [Nat.mul_comm] at e
  conv => lhs; rw [← e]
  rw [it_add, it_mul h]
theorem Inv.cyc {n : Nat} {L : List T3} {K : Nat} {s : St} {t : Nat → Nat} (h : Inv n L K L.length s t) (hL : okL n L) (hK : K = (n - 1) * L.length) {v : Nat} (hv : v < n) (ht : K < t v) : (∀ a, a < n → ∃ j, Has n L s t (itB L s a v) j) ∧ ∃ p, Cyc n L s t (itB L s n v) p := by
  subst hK
  have hc := h.chain hL hv ht
  have hh : ∀ a, a < n → ∃ j, Has n L s t (itB L s a v) j := fun a ha => by
    obtain ⟨h1, h2⟩ := hc a (by omega)
    have h3 : a * L.length ≤ (n - 1) * L.length := Nat.mul_le_mul_right _ (by omega)
    exact h.has h1 (by omega)
  refine ⟨hh, ?_⟩
  obtain ⟨i, j, hij, hj, e⟩ := pigeon n (fun a => itB L s a v) fun a ha => (hc a ha).1
  (try simp only at e)
  have hp : itB L s (j - i) (itB L s i v) = itB L s i v := by
    rw [← it_add, show j - i + i = j by omega]
    exact e.symm
  have hu : itB L s n v = itB L s (n - i) (itB L s i v) := by rw [← it_add, show n - i + i = n by omega]
  have hpu : itB L s (j - i) (itB L s n v) = itB L s n v := by rw [hu, it_comm, hp]
  have hall : ∀ a, ∃ k, Has n L s t (itB L s a (itB L s n v)) k := fun a => by
    rw [hu, ← it_add, it_mod hp, ← it_add]
    have : (a + (n - i)) % (j - i) < j - i := Nat.mod_lt _ (by omega)
    exact hh _ (by omega)
  obtain ⟨p, ⟨h1, h2⟩, h3⟩ := least_nat (P := fun q => 1 ≤ q ∧ itB L s q (itB L s n v) = itB L s n v) ⟨j - i, by omega, hpu⟩
  exact ⟨p, h1, h2, hall, fun q hq hqp e => h3 q hqp ⟨hq, e⟩⟩
theorem Cyc.inj {n : Nat} {L : List T3} {s : St} {t : Nat → Nat} {u p : Nat} (h : Cyc n L s t u p) {a b : Nat} (hab : a < b) (hb : b < p) : itB L s a u ≠ itB L s b u := by
  intro e
  refine h.min (p - b + a) (by omega) (by omega) ?_
  rw [it_add, e, ← it_add, show p - b + b = p by omega]
  exact h.back
theorem Cyc.le {n : Nat} {L : List T3} {s : St} {t : Nat → Nat} {u p : Nat} (h : Cyc n L s t u p) : p ≤ n := by
  apply Classical.byContradiction
  intro hn
  obtain ⟨i, j, hij, hj, e⟩ := pigeon n (fun a => itB L s a u) fun a ha => by
    obtain ⟨k, hk⟩ := h.has a
    exact hk.vn
  exact h.inj hij (by omega) e
theorem Cyc.shift {n : Nat} {L : List T3} {s : St} {t : Nat → Nat} {u p : Nat} (h : Cyc n L s t u p) (b : Nat) : Cyc n L s t (itB L s b u) p := by
  refine ⟨h.pos, by rw [it_comm, h.back], fun a => by rw [← it_add]; exact h.has _, fun q hq hqp e => ?_⟩
  refine h.min q hq hqp ?_
  have e2 : itB L s (b * p - b) (itB L s q (itB L s b u)) = itB L s (b * p - b) (itB L s b u) := by rw [e]
  have hbp : b ≤ b * p := Nat.le_mul_of_pos_right _ h.pos
  rw [← it_add, ← it_add, ← it_add, show b * p - b + q + b = q + b * p by omega, show b * p - b + b = b * p by omega, it_add, it_mul h.back] at e2
  exact e2
/-- The bound by which the a-th number on the way back was made. -/
def mdB (L : List T3) (s : St) (u a : Nat) : Nat := (s.m.getD (itB L s a u) 0).toNat
theorem Cyc.md {n : Nat} {L : List T3} {s : St} {t : Nat → Nat} {u p : Nat} (h : Cyc n L s t u p) (a : Nat) : Has n L s t (itB L s a u) (mdB L s u a) ∧ pn L (mdB L s u a) = itB L s (a + 1) u := by
  obtain ⟨j, hj⟩ := h.has a
  have e : mdB L s u a = j := by
    unfold mdB
    rw [hj.made]
    rfl
  rw [e]
  exact ⟨hj, hj.bkw.symm⟩
def sumF (f : Nat → Int) : Nat → Int
  | 0 => 0
  | a + 1 => sumF f a + f a
theorem sumF_tel (g : Nat → Int) : ∀ a, sumF (fun i => g i - g (i + 1)) a = g 0 - g a := by
  intro a
  induction a with
  | zero => simp [sumF]
  | succ a ih => simp only [sumF, ih]; omega
theorem sumF_le {f g : Nat → Int} : ∀ a, (∀ i, i < a → f i ≤ g i) → sumF f a ≤ sumF g a := by
  intro a
  induction a with
  | zero => intro _; simp [sumF]
  | succ a ih =>
    intro h
    have h1 := ih fun i hi => h i (by omega)
    have h2 := h a (by omega)
    simp only [sumF]
    omega
theorem sumF_lt {f g : Nat → Int} : ∀ a, (∀ i, i < a → f i ≤ g i) → (∃ i, i < a ∧ f i < g i) → sumF f a < sumF g a := by
  intro a
  induction a with
  | zero => rintro _ ⟨i, hi, _⟩; omega
  | succ a ih =>
    rintro h ⟨i, hi, hl⟩
    have h2 := h a (by omega)
    simp only [sumF]
    by_cases e : i = a
    · subst e
      have h1 := sumF_le i fun j hj => h j (by omega)
      omega
    · have h1 := ih (fun j hj => h j (by omega)) ⟨i, by omega, hl⟩
      omega
/-- A round can't hold: its bounds' sum is above 0. -/
theorem Cyc.sum {n : Nat} {L : List T3} {s : St} {t : Nat → Nat} {u p : Nat} (h : Cyc n L s t u p) : 0 < sumF (fun a => (bk L (mdB L s u a)).r) p := by
  have h0 := sumF_tel (fun a => s.x.getD (itB L s a u) 0) p
  have e0 : s.x.getD (itB L s 0 u) 0 = s.x.getD (itB L s p u) 0 := by rw [h.back]; rfl
  (try simp only at h0)
  rw [e0, Int.sub_self] at h0
  rw [← h0]
  refine sumF_lt p (fun a _ => ?_) ?_
  · obtain ⟨h1, h2⟩ := h.md a
    have := h1.xle
    rw [h2] at this
    omega
  · apply Classical.byContradiction
    intro hn
    have hlt : ∀ a, a < p → t (itB L s (a + 1) u) < t (itB L s a u) := fun a ha => by
      obtain ⟨h1, h2⟩ := h.md a
      apply Classical.byContradiction
      intro hge
      have := h1.xlt (by rw [h2]; omega)
      rw [h2] at this
      exact hn ⟨a, ha, by omega⟩
    have hdec : ∀ a, a ≤ p → t (itB L s a u) + a ≤ t u := by
      intro a
      induction a with
      | zero => intro _; exact Nat.le_refl _
      | succ a ih =>
        intro ha
        have h1 := ih (by omega)
        have h2 := hlt a (by omega)
        omega
    have h1 := hdec p (Nat.le_refl _)
    rw [h.back] at h1
    have := h.pos
    omega
/-- So where numbers keep all bounds there is no round. -/
theorem Cyc.no {n : Nat} {L : List T3} {s : St} {t : Nat → Nat} {u p : Nat} (h : Cyc n L s t u p) {y : Nat → Int} (hy : sols n L y) : False := by
  have h1 := h.sum
  have h0 := sumF_tel (fun a => y (itB L s a u)) p
  have e0 : y (itB L s 0 u) = y (itB L s p u) := by rw [h.back]; rfl
  (try simp only at h0)
  rw [e0, Int.sub_self] at h0
  have h2 : sumF (fun a => (bk L (mdB L s u a)).r) p ≤ sumF (fun a => y (itB L s a u) - y (itB L s (a + 1) u)) p := sumF_le p fun a _ => by
    obtain ⟨h3, h4⟩ := h.md a
    have := hy _ h3.jl
    rw [h4, h3.qv] at this
    omega
  omega
theorem fin_ok {n : Nat} {L : List T3} (hL : okL n L) {y : Nat → Int} (hy : sols n L y) : (fin n L).last = -1 := by
  obtain ⟨K, t, hI, h1, _⟩ := fin_inv hL
  rcases h1 with h1 | ⟨hn, hK⟩
  · exact h1
  · rcases hI.last with ⟨h2, _⟩ | ⟨v, hv, _, ht⟩
    · exact h2
    · obtain ⟨_, p, hc⟩ := hI.cyc hL hK hv ht
      exact (hc.no hy).elim
theorem fin_sol {n : Nat} {L : List T3} (hL : okL n L) (h : (fin n L).last = -1) : sols n L fun v => (fin n L).x.getD v 0 := by
  obtain ⟨K, t, hI, _, _⟩ := fin_inv hL
  exact hI.kept h
theorem fin_bd {n : Nat} {L : List T3} (hL : okL n L) {v : Nat} (hv : v < n) : 0 ≤ (fin n L).x.getD v 0 ∧ (fin n L).x.getD v 0 ≤ ((n * L.length + L.length : Nat) : Int) * 1048576 := by
  obtain ⟨K, t, hI, _, hK⟩ := fin_inv hL
  have := hI.bd v hv
  have h2 : ((K + L.length : Nat) : Int) * 1048576 ≤ ((n * L.length + L.length : Nat) : Int) * 1048576 := Int.mul_le_mul_of_nonneg_right (by omega) (by omega)
  omega
end Go.Proofs.Ytjippgflempdmaa

/- Layer 9: Check of both sides. (Printed by least/gen_a.py.) -/
namespace Go.Proofs.Ytjippgflempdmaa
set_option linter.unusedVariables false
set_option linter.unusedSimpArgs false
set_option maxRecDepth 100000
open Go.RowKit
attribute [local go_sem] max_fold min_fold

def okBb (n : Int) (b : T3) : Bool := decide ((0 ≤ b.p ∧ b.p < n) ∧ (0 ≤ b.q ∧ b.q < n) ∧ (-1048576 ≤ b.r ∧ b.r ≤ 1048576))
def allB (n : Int) (L : List T3) : Bool := L.all (okBb n)
def chkN (n : Int) (L : List T3) : Int := if n < 0 then 2 else if 4096 < n ∨ 4096 < L.length then 4 else if allB n L then 0 else 2
theorem allB_take (n : Int) (L : List T3) (k : Nat) (h : k < L.length) : allB n (L.take (k + 1)) = (allB n (L.take k) && okBb n L[k]) := by
  rw [List.take_succ_eq_append_getElem h]
  simp only [allB, List.all_append, List.all_cons, List.all_nil, Bool.and_true]
theorem allB_no {n : Int} {L : List T3} {k : Nat} (h : k < L.length) (hm : okBb n L[k] = false) : allB n L = false := by
  rw [Bool.eq_false_iff]
  intro ha
  have := (List.all_eq_true.1 ha) L[k] (List.getElem_mem h)
  rw [hm] at this
  cases this
theorem bk_at {L : List T3} {j : Nat} (h : j < L.length) : bk L j = L[j] := by simp [bk, List.getD, h]
theorem chkN_ok {n : Int} {L : List T3} (h : chkN n L = 0) : ∃ m : Nat, n = (m : Int) ∧ m ≤ 4096 ∧ L.length ≤ 4096 ∧ okL m L := by
  unfold chkN at h
  split at h
  · omega
  · split at h
    · omega
    · split at h
      · rename_i h1 h2 h3
        refine ⟨n.toNat, by omega, by omega, by omega, fun j hj => ?_⟩
        have := List.all_eq_true.1 h3 L[j] (List.getElem_mem hj)
        simp only [okBb, decide_eq_true_eq] at this
        rw [bk_at hj]
        unfold okB
        omega
      · omega
theorem chkN_is (n : Int) (L : List T3) : chkN n L = 0 ∨ chkN n L = 2 ∨ chkN n L = 4 := by
  unfold chkN
  split
  · simp
  · split
    · simp
    · split <;> simp

set_option maxHeartbeats 4000000 in
set_option maxRecDepth 100000 in
theorem checkN_any (B : Nat) (A : Option Addr) (c : Nat) (n : Int) (L : List T3) (w : World) (hA : At B w A (t3s L)) (hB : B ≤ w.heap.size) (hl : L.length ≤ 9000000000000000000) :
    Calls Try.prog 80 #[.int .i64 n, .slice A L.length c] w fun e w' => e = .returned (.int .i64 (chkN n L)) ∧ Below w.heap.size w w' := by
  by_cases hn : n < 0
  · rw [show chkN n L = 2 by simp [chkN, hn]]
    go_enter Try.func80, Try.ntmps80
    go_wp2
    go_ret
    exact ⟨rfl, (by repeat (first | exact Below.refl _ _ | with_reducible refine Below.alloc ?_ (by first | (simp; done) | (simp; omega) | omega) _ | with_reducible refine Below.setCell ?_ (by first | (simp; done) | (simp; omega) | omega) _ | with_reducible refine Below.drew ?_ | with_reducible refine Below.trans ?_ (Below.mono (by assumption) (by first | (simp; done) | (simp; omega) | omega))))⟩
  · by_cases hbig : 4096 < n ∨ 4096 < L.length
    · rw [show chkN n L = 4 by simp [chkN, hn, hbig]]
      by_cases hn2 : 4096 < n
      · clear hbig
        go_enter Try.func80, Try.ntmps80
        go_wp2
        go_ret
        exact ⟨rfl, (by repeat (first | exact Below.refl _ _ | with_reducible refine Below.alloc ?_ (by first | (simp; done) | (simp; omega) | omega) _ | with_reducible refine Below.setCell ?_ (by first | (simp; done) | (simp; omega) | omega) _ | with_reducible refine Below.drew ?_ | with_reducible refine Below.trans ?_ (Below.mono (by assumption) (by first | (simp; done) | (simp; omega) | omega))))⟩
      · have hb : (4096 : Int) < (L.length : Int) := by omega
        clear hbig
        go_enter Try.func80, Try.ntmps80
        go_wp2
        go_ret
        exact ⟨rfl, (by repeat (first | exact Below.refl _ _ | with_reducible refine Below.alloc ?_ (by first | (simp; done) | (simp; omega) | omega) _ | with_reducible refine Below.setCell ?_ (by first | (simp; done) | (simp; omega) | omega) _ | with_reducible refine Below.drew ?_ | with_reducible refine Below.trans ?_ (Below.mono (by assumption) (by first | (simp; done) | (simp; omega) | omega))))⟩
    · have hb : (L.length : Int) ≤ 4096 := by omega
      have hn2 : n ≤ 4096 := by omega
      have hlen : L.length ≤ 4096 := by omega
      have HC := Go.Lib.hid (show chkN n L = if allB n L then 0 else 2 by simp [chkN, hn, hbig])
      have hn3 : 0 ≤ n := by omega
      clear hbig hn
      go_enter Try.func80, Try.ntmps80
      go_wp2
      go_loopw [18] (fun i wr => ∃ k : Nat, k ≤ L.length ∧ i = .int .i64 k ∧ Hid (allB n (L.take k) = true) ∧ Below w.heap.size w wr) (fun i _ => L.length - (intOf i).toNat)
      case atStart => exact ⟨0, by omega, rfl, Go.Lib.hid rfl, Below.refl _ _⟩
      case round =>
        obtain ⟨k, hk, rfl, HP, hbr⟩ := hrel
        have hsr := hbr.size
        by_cases hlt : k < L.length
        · have hli : (k : Int) < (L.length : Int) := by omega
          obtain ⟨g, o, rfl, hg, c0, c1, c2⟩ := (hA.below (hbr.mono hB)).t3 hlt
          have HS := Go.Lib.hid (allB_take n L k hlt)
          have HN : Hid (okBb n L[k] = false → allB n L = false) := Go.Lib.hid fun h => allB_no (L := L) hlt h
          clear hA
          generalize L[k] = t at *
          go_wp2
          all_goals first
            | (go_roundw
               case rel =>
                 have hm : okBb n t = true := by simp only [okBb, decide_eq_true_eq]; omega
                 exact ⟨k + 1, by omega, by go_num, Go.Lib.hid (by rw [HS.out, HP.out, hm]; rfl), hbr.alloc hsr _⟩
               case measure => simp [intOf]; omega)
            | (go_ret
               refine ⟨ret_int ?_, hbr.alloc hsr _⟩
               have hm : okBb n t = false := by simp only [okBb, decide_eq_false_iff_not]; omega
               rw [HC.out, HN.out hm]
               rfl)
        · have hlt' : ¬ ((k : Int) < (L.length : Int)) := by omega
          have hkl : k = L.length := by omega
          go_wp2
          go_ret
          refine ⟨ret_int ?_, hbr⟩
          have := HP.out
          rw [hkl, List.take_length] at this
          rw [HC.out, this]
          rfl

set_option maxHeartbeats 4000000 in
set_option maxRecDepth 100000 in
theorem rcheckN_any (B : Nat) (A : Option Addr) (c : Nat) (n : Int) (L : List T3) (w : World) (hA : At B w A (t3s L)) (hB : B ≤ w.heap.size) (hl : L.length ≤ 9000000000000000000) :
    Calls Try.prog 86 #[.int .i64 n, .slice A L.length c] w fun e w' => e = .returned (.int .i64 (chkN n L)) ∧ Below w.heap.size w w' := by
  by_cases hn : n < 0
  · rw [show chkN n L = 2 by simp [chkN, hn]]
    go_enter Try.func86, Try.ntmps86
    go_wp2
    go_ret
    exact ⟨rfl, (by repeat (first | exact Below.refl _ _ | with_reducible refine Below.alloc ?_ (by first | (simp; done) | (simp; omega) | omega) _ | with_reducible refine Below.setCell ?_ (by first | (simp; done) | (simp; omega) | omega) _ | with_reducible refine Below.drew ?_ | with_reducible refine Below.trans ?_ (Below.mono (by assumption) (by first | (simp; done) | (simp; omega) | omega))))⟩
  · by_cases hbig : 4096 < n ∨ 4096 < L.length
    · rw [show chkN n L = 4 by simp [chkN, hn, hbig]]
      by_cases hn2 : 4096 < n
      · clear hbig
        go_enter Try.func86, Try.ntmps86
        go_wp2
        go_ret
        exact ⟨rfl, (by repeat (first | exact Below.refl _ _ | with_reducible refine Below.alloc ?_ (by first | (simp; done) | (simp; omega) | omega) _ | with_reducible refine Below.setCell ?_ (by first | (simp; done) | (simp; omega) | omega) _ | with_reducible refine Below.drew ?_ | with_reducible refine Below.trans ?_ (Below.mono (by assumption) (by first | (simp; done) | (simp; omega) | omega))))⟩
      · have hb : (4096 : Int) < (L.length : Int) := by omega
        clear hbig
        go_enter Try.func86, Try.ntmps86
        go_wp2
        go_ret
        exact ⟨rfl, (by repeat (first | exact Below.refl _ _ | with_reducible refine Below.alloc ?_ (by first | (simp; done) | (simp; omega) | omega) _ | with_reducible refine Below.setCell ?_ (by first | (simp; done) | (simp; omega) | omega) _ | with_reducible refine Below.drew ?_ | with_reducible refine Below.trans ?_ (Below.mono (by assumption) (by first | (simp; done) | (simp; omega) | omega))))⟩
    · have hb : (L.length : Int) ≤ 4096 := by omega
      have hn2 : n ≤ 4096 := by omega
      have hlen : L.length ≤ 4096 := by omega
      have HC := Go.Lib.hid (show chkN n L = if allB n L then 0 else 2 by simp [chkN, hn, hbig])
      have hn3 : 0 ≤ n := by omega
      clear hbig hn
      go_enter Try.func86, Try.ntmps86
      go_wp2
      go_loopw [5] (fun i wr => ∃ k : Nat, k ≤ L.length ∧ i = .int .i64 k ∧ Hid (allB n (L.take k) = true) ∧ Below w.heap.size w wr) (fun i _ => L.length - (intOf i).toNat)
      case atStart => exact ⟨0, by omega, rfl, Go.Lib.hid rfl, Below.refl _ _⟩
      case round =>
        obtain ⟨k, hk, rfl, HP, hbr⟩ := hrel
        have hsr := hbr.size
        by_cases hlt : k < L.length
        · have hli : (k : Int) < (L.length : Int) := by omega
          obtain ⟨g, o, rfl, hg, c0, c1, c2⟩ := (hA.below (hbr.mono hB)).t3 hlt
          have HS := Go.Lib.hid (allB_take n L k hlt)
          have HN : Hid (okBb n L[k] = false → allB n L = false) := Go.Lib.hid fun h => allB_no (L := L) hlt h
          clear hA
          generalize L[k] = t at *
          go_wp2
          all_goals first
            | (go_roundw
               case rel =>
                 have hm : okBb n t = true := by simp only [okBb, decide_eq_true_eq]; omega
                 exact ⟨k + 1, by omega, by go_num, Go.Lib.hid (by rw [HS.out, HP.out, hm]; rfl), hbr.alloc hsr _⟩
               case measure => simp [intOf]; omega)
            | (go_ret
               refine ⟨ret_int ?_, hbr.alloc hsr _⟩
               have hm : okBb n t = false := by simp only [okBb, decide_eq_false_iff_not]; omega
               rw [HC.out, HN.out hm]
               rfl)
        · have hlt' : ¬ ((k : Int) < (L.length : Int)) := by omega
          have hkl : k = L.length := by omega
          go_wp2
          go_ret
          refine ⟨ret_int ?_, hbr⟩
          have := HP.out
          rw [hkl, List.take_length] at this
          rw [HC.out, this]
          rfl

end Go.Proofs.Ytjippgflempdmaa

/- Layer 9: answers, in plain Lean: the least numbers, the loop that is told, tight bounds, the greatest numbers. -/
namespace Go.Proofs.Ytjippgflempdmaa
set_option linter.unusedVariables false
set_option linter.unusedSimpArgs false
set_option maxRecDepth 100000
open Go.RowKit

/-! The loop. -/
structure Arg (L : List T3) (s : St) (u p b : Nat) : Prop where
  lt : b < p
  le : ∀ a, a < p → mdB L s u b ≤ mdB L s u a
theorem arg_ex (L : List T3) (s : St) (u : Nat) : ∀ p, 1 ≤ p → ∃ b, Arg L s u p b := by
  intro p
  induction p with
  | zero => intro h; omega
  | succ p ih =>
    intro _
    by_cases hp : p = 0
    · subst hp
      exact ⟨0, by omega, fun a ha => by rw [show a = 0 by omega]; exact Nat.le_refl _⟩
    · obtain ⟨b, h1, h2⟩ := ih (by omega)
      by_cases hb : mdB L s u b ≤ mdB L s u p
      · refine ⟨b, by omega, fun a ha => ?_⟩
        by_cases e : a = p
        · subst e
          exact hb
        · exact h2 a (by omega)
      · refine ⟨p, by omega, fun a ha => ?_⟩
        by_cases e : a = p
        · subst e
          exact Nat.le_refl _
        · have := h2 a (by omega)
          omega
theorem md_add {L : List T3} {s : St} {u a b : Nat} : mdB L s (itB L s b u) a = mdB L s u (a + b) := by
  unfold mdB
  rw [it_add]
theorem Cyc.per {n : Nat} {L : List T3} {s : St} {t : Nat → Nat} {u p : Nat} (h : Cyc n L s t u p) (a : Nat) : mdB L s u (a + p) = mdB L s u a := by
  unfold mdB
  rw [it_add, h.back]
/-- The loop, from its least bound on, forth. -/
def loopL (L : List T3) (s : St) (u p b : Nat) : List Int := (List.range p).map fun i => (mdB L s u (b + p - i) : Int)
inductive LoopIs (n : Int) (L : List T3) : List Int → Int → Prop
  | bad (h : chkN n L ≠ 0) : LoopIs n L [] (chkN n L)
  | none (h : chkN n L = 0) (hl : (fin n.toNat L).last = -1) : LoopIs n L [] 0
  | some (h : chkN n L = 0) (v p b : Nat) (t : Nat → Nat) (hv : v < n.toNat) (hl : (fin n.toNat L).last = (v : Int)) (hh : ∀ a, a < n.toNat → ∃ j, Has n.toNat L (fin n.toNat L) t (itB L (fin n.toNat L) a v) j) (hc : Cyc n.toNat L (fin n.toNat L) t (itB L (fin n.toNat L) n.toNat v) p) (hb : Arg L (fin n.toNat L) (itB L (fin n.toNat L) n.toNat v) p b) : LoopIs n L (loopL L (fin n.toNat L) (itB L (fin n.toNat L) n.toNat v) p b) 0
theorem loop_ex (n : Int) (L : List T3) : ∃ R E, LoopIs n L R E := by
  by_cases h0 : chkN n L = 0
  · by_cases hl : (fin n.toNat L).last = -1
    · exact ⟨_, _, .none h0 hl⟩
    · obtain ⟨m, hm, _, _, hL⟩ := chkN_ok h0
      have em : n.toNat = m := by omega
      rw [em] at hl
      obtain ⟨K, t, hI, h1, _⟩ := fin_inv hL
      rcases h1 with h1 | ⟨hn, hK⟩
      · exact absurd h1 hl
      · rcases hI.last with ⟨h2, _⟩ | ⟨v, hv, e, ht⟩
        · exact absurd h2 hl
        · obtain ⟨hh, p, hc⟩ := hI.cyc hL hK hv ht
          obtain ⟨b, hb⟩ := arg_ex L (fin m L) (itB L (fin m L) m v) p hc.pos
          subst em
          exact ⟨_, _, .some h0 v p b t hv e hh hc hb⟩
  · exact ⟨_, _, .bad h0⟩

/-! The least numbers. -/
def solveE (n : Int) (L : List T3) : Int := if chkN n L = 0 then (if (fin n.toNat L).last = -1 then 0 else 90) else chkN n L
def solveR (n : Int) (L : List T3) : List Int := if solveE n L = 0 then (fin n.toNat L).x else []
theorem solveE_ok {n : Int} {L : List T3} (h : solveE n L = 0) : chkN n L = 0 ∧ (fin n.toNat L).last = -1 := by
  unfold solveE at h
  split at h
  · split at h
    · exact ⟨by assumption, by assumption⟩
    · omega
  · rename_i h0
    exact absurd h h0
theorem solveR_len {n : Int} {L : List T3} (h : solveE n L = 0) : (solveR n L).length = n.toNat := by
  unfold solveR
  rw [if_pos h]
  exact (fin_len _ _).1
theorem solveR_lt (n : Int) (L : List T3) : (solveR n L).length ≤ 4096 := by
  by_cases h : solveE n L = 0
  · rw [solveR_len h]
    obtain ⟨m, hm, h1, _⟩ := chkN_ok (solveE_ok h).1
    omega
  · unfold solveR
    rw [if_neg h]
    simp

/-! Tight bounds. -/
def tightB (x : List Int) (b : T3) : Bool := gi x b.q - gi x b.p == b.r
def tightL (x : List Int) (L : List T3) : Nat → List Int
  | 0 => []
  | i + 1 => if tightB x (bk L i) then tightL x L i ++ [(i : Int)] else tightL x L i
theorem tightL_len (x : List Int) (L : List T3) : ∀ i, (tightL x L i).length ≤ i := by
  intro i
  induction i with
  | zero => simp [tightL]
  | succ i ih =>
    unfold tightL
    split
    · simp; omega
    · omega
def tightR (n : Int) (L : List T3) : List Int := if solveE n L = 0 then tightL (solveR n L) L L.length else []

/-! The first bound that is not kept. -/
def offB (x : List Int) (b : T3) : Bool := decide (gi x b.q < gi x b.p + b.r)
def firstOff (x : List Int) (L : List T3) : Nat → Option Nat
  | 0 => none
  | i + 1 => match firstOff x L i with
    | some j => some j
    | none => if offB x (bk L i) then some i else none
def numB (v : Int) : Bool := decide (-1099511627776 ≤ v ∧ v ≤ 1099511627776)
def keepsE (x : List Int) (L : List T3) : Int := if 4096 < x.length then 4 else if x.all numB then chkN x.length L else 2
def keepsK (x : List Int) (L : List T3) : Int := if keepsE x L = 0 then (match firstOff x L L.length with | some j => (j : Int) | none => -1) else 0
theorem firstOff_none {x : List Int} {L : List T3} : ∀ i, firstOff x L i = none ↔ ∀ j, j < i → offB x (bk L j) = false := by
  intro i
  induction i with
  | zero => simp [firstOff]
  | succ i ih =>
    unfold firstOff
    cases h : firstOff x L i with
    | some j =>
      simp only
      constructor
      · intro h2; cases h2
      · intro h2
        rw [ih.2 fun j hj => h2 j (by omega)] at h
        cases h
    | none =>
      simp only
      have h1 := ih.1 h
      cases hb : offB x (bk L i) with
      | true =>
        simp only [if_true]
        constructor
        · intro h2; cases h2
        · intro h2
          rw [h2 i (by omega)] at hb
          cases hb
      | false =>
        simp only [Bool.false_eq_true, if_false, true_iff]
        intro j hj
        by_cases e : j = i
        · subst e
          exact hb
        · exact h1 j (by omega)
theorem firstOff_some {x : List Int} {L : List T3} {i j : Nat} (h : ∀ k, k < j → offB x (bk L k) = false) (hj : offB x (bk L j) = true) (hi : j < i) : firstOff x L i = some j := by
  induction i with
  | zero => omega
  | succ i ih =>
    unfold firstOff
    by_cases e : j = i
    · subst e
      rw [(firstOff_none j).2 h]
      simp [hj]
    · rw [ih (by omega)]

/-! Bounds turned round. -/
def turn (b : T3) : T3 := ⟨b.q, b.p, b.r⟩
def turnL (L : List T3) : List T3 := L.map turn
theorem turnL_len (L : List T3) : (turnL L).length = L.length := by simp [turnL]
theorem bk_turn (L : List T3) (j : Nat) : bk (turnL L) j = turn (bk L j) := by
  unfold bk turnL List.getD
  rw [List.getElem?_map]
  cases L[j]? <;> rfl
theorem pn_turn (L : List T3) (j : Nat) : pn (turnL L) j = qn L j := by
  unfold pn qn
  rw [bk_turn]
  rfl
theorem qn_turn (L : List T3) (j : Nat) : qn (turnL L) j = pn L j := by
  unfold pn qn
  rw [bk_turn]
  rfl
theorem okL_turn {n : Nat} {L : List T3} (h : okL n L) : okL n (turnL L) := by
  intro j hj
  rw [turnL_len] at hj
  have := h j hj
  rw [bk_turn]
  unfold okB turn at *
  exact ⟨this.2.1, this.1, this.2.2⟩
theorem chkN_turn (n : Int) (L : List T3) : chkN n (turnL L) = chkN n L := by
  have : allB n (turnL L) = allB n L := by
    unfold allB turnL
    rw [List.all_map]
    congr 1
    funext b
    unfold okBb turn
    simp only [Function.comp, decide_eq_decide]
    exact ⟨fun h => ⟨h.2.1, h.1, h.2.2⟩, fun h => ⟨h.2.1, h.1, h.2.2⟩⟩
  unfold chkN
  rw [turnL_len, this]
theorem sols_turn {n : Nat} {L : List T3} {y : Nat → Int} (h : sols n L y) (c : Int) : sols n (turnL L) fun v => c - y v := by
  intro j hj
  rw [turnL_len] at hj
  have := h j hj
  simp only [pn_turn, qn_turn, bk_turn]
  show c - y (qn L j) + (turn (bk L j)).r ≤ c - y (pn L j)
  unfold turn
  simp only
  omega
theorem turn_turn (L : List T3) : turnL (turnL L) = L := by
  unfold turnL
  rw [List.map_map]
  conv => rhs; rw [← List.map_id L]
  rfl
theorem fin_turn_ok {n : Nat} {L : List T3} (hL : okL n L) (h : (fin n L).last = -1) : (fin n (turnL L)).last = -1 :=
  fin_ok (okL_turn hL) (sols_turn (fin_sol hL h) 0)
theorem fin_turn_iff {n : Nat} {L : List T3} (hL : okL n L) : (fin n (turnL L)).last = -1 ↔ (fin n L).last = -1 := by
  refine ⟨fun h => ?_, fin_turn_ok hL⟩
  have := fin_turn_ok (okL_turn hL) h
  rwa [turn_turn] at this

/-! The greatest numbers. -/
def topOk (most : Int) : Bool := decide (0 ≤ most ∧ most ≤ 1099511627776)
def topL (n : Nat) (L : List T3) (most : Int) : List Int := (fin n (turnL L)).x.map fun z => most - z
def topE (n : Int) (L : List T3) (most : Int) : Int := if chkN n L = 0 then (if topOk most then (if (fin n.toNat L).last = -1 then (if (topL n.toNat L most).all (fun v => decide (0 ≤ v)) then 0 else 90) else 90) else 2) else chkN n L
def topR (n : Int) (L : List T3) (most : Int) : List Int := if topE n L most = 0 then topL n.toNat L most else []
theorem more_round {L : List T3} : ∀ (f : Nat) (s : St), (roundsB L (f + 1) s).last = -1 → roundsB L (f + 2) s = roundsB L (f + 1) s := by
  intro f
  induction f with
  | zero =>
    intro s h
    have h1 : (roundB L s).last = -1 := by
      unfold roundsB at h
      split at h
      · assumption
      · exact h
    simp only [roundsB, h1, if_true]
  | succ f ih =>
    intro s h
    by_cases h1 : (roundB L s).last = -1
    · simp only [roundsB, h1, if_true]
    · have e1 : roundsB L (f + 1 + 1) s = roundsB L (f + 1) (roundB L s) := by
        rw [roundsB, if_neg h1]
      have e2 : roundsB L (f + 1 + 2) s = roundsB L (f + 2) (roundB L s) := by
        rw [roundsB, if_neg h1]
      rw [e1, e2]
      rw [e1] at h
      exact ih _ h
theorem fin_more {n : Nat} {L : List T3} (hL : okL n L) (h : (fin n L).last = -1) : (roundsB L (n + 1) (start n)).x = (fin n L).x ∧ (roundsB L (n + 1) (start n)).last = -1 := by
  cases n with
  | zero =>
    have h0 : L.length = 0 := by
      rcases Nat.eq_zero_or_pos L.length with h | h
      · exact h
      · have := hL 0 h
        unfold okB at this
        omega
    have e : L = [] := List.eq_nil_of_length_eq_zero h0
    subst e
    exact ⟨rfl, rfl⟩
  | succ n =>
    have := more_round n (start (n + 1)) h
    unfold fin at h ⊢
    rw [this]
    exact ⟨rfl, h⟩
end Go.Proofs.Ytjippgflempdmaa

/- Layer 9: what the laws ask, in plain Lean. -/
namespace Go.Proofs.Ytjippgflempdmaa
set_option linter.unusedVariables false
set_option linter.unusedSimpArgs false
set_option maxRecDepth 100000
open Go.RowKit

theorem numB_iff (v : Int) : numB v = true ↔ -1099511627776 ≤ v ∧ v ≤ 1099511627776 := by simp [numB]
theorem off_iff (x : List Int) (L : List T3) (j : Nat) : offB x (bk L j) = false ↔ x.getD (pn L j) 0 + (bk L j).r ≤ x.getD (qn L j) 0 := by
  unfold offB gi pn qn
  simp
theorem keepsE_is (x : List Int) (L : List T3) : keepsE x L = 0 ∨ keepsE x L = 2 ∨ keepsE x L = 4 := by
  unfold keepsE
  split
  · simp
  · split
    · exact chkN_is _ _
    · simp
theorem keeps_fine {x : List Int} {L : List T3} (hE : keepsE x L = 0) (hK : keepsK x L = -1) : chkN x.length L = 0 ∧ sols x.length L fun v => x.getD v 0 := by
  have hc : chkN x.length L = 0 := by
    unfold keepsE at hE
    split at hE
    · omega
    · split at hE
      · exact hE
      · omega
  refine ⟨hc, ?_⟩
  unfold keepsK at hK
  rw [if_pos hE] at hK
  cases h : firstOff x L L.length with
  | some j => rw [h] at hK; simp only at hK; omega
  | none => exact fun j hj => (off_iff x L j).1 ((firstOff_none _).1 h j hj)
theorem keeps_of {x : List Int} {L : List T3} (hc : chkN x.length L = 0) (hn : ∀ v ∈ x, -1099511627776 ≤ v ∧ v ≤ 1099511627776) (hs : sols x.length L fun v => x.getD v 0) : keepsE x L = 0 ∧ keepsK x L = -1 := by
  obtain ⟨m, hm, h1, h2, hL⟩ := chkN_ok hc
  have hE : keepsE x L = 0 := by
    unfold keepsE
    rw [if_neg (by omega), if_pos (List.all_eq_true.2 fun v hv => (numB_iff v).2 (hn v hv))]
    exact hc
  refine ⟨hE, ?_⟩
  unfold keepsK
  rw [if_pos hE, (firstOff_none _).2 fun j hj => (off_iff x L j).2 (hs j hj)]

/-! Tight bounds. -/
theorem tight_mem {x : List Int} {L : List T3} {j : Nat} : ∀ i, j < i → tightB x (bk L j) = true → (j : Int) ∈ tightL x L i := by
  intro i
  induction i with
  | zero => intro h; omega
  | succ i ih =>
    intro h hb
    unfold tightL
    by_cases e : j = i
    · subst e
      rw [if_pos hb]
      simp
    · have := ih (by omega) hb
      split
      · exact List.mem_append_left _ this
      · exact this
theorem tight_in {x : List Int} {L : List T3} : ∀ i, ∀ v ∈ tightL x L i, 0 ≤ v ∧ v < (i : Int) := by
  intro i
  induction i with
  | zero => intro v h; simp [tightL] at h
  | succ i ih =>
    intro v h
    unfold tightL at h
    split at h
    · rcases List.mem_append.1 h with h | h
      · have := ih v h
        omega
      · simp at h
        omega
    · have := ih v h
      omega
theorem tight_inc {x : List Int} {L : List T3} : ∀ i, ∀ k, k + 1 < (tightL x L i).length → (tightL x L i).getD k 0 < (tightL x L i).getD (k + 1) 0 := by
  intro i
  induction i with
  | zero => intro k h; simp [tightL] at h
  | succ i ih =>
    intro k h
    have hb := tight_in (x := x) (L := L) i
    unfold tightL at h ⊢
    split
    · rename_i hc
      rw [if_pos hc] at h
      simp only [List.length_append, List.length_cons, List.length_nil] at h
      by_cases e : k + 1 < (tightL x L i).length
      · have := ih k e
        simp only [List.getD, List.getElem?_append_left e, List.getElem?_append_left (show k < (tightL x L i).length by omega)]
        exact this
      · have e2 : k + 1 = (tightL x L i).length := by omega
        have h3 := hb _ (List.getElem_mem (show k < (tightL x L i).length by omega))
        simp only [List.getD, e2, List.getElem?_append_left (show k < (tightL x L i).length by omega), List.getElem?_append_right (Nat.le_refl _)]
        simp [show k < (tightL x L i).length by omega]
        omega
    · rename_i hc
      rw [if_neg hc] at h
      exact ih k h

/-! The least numbers lie below all others. -/
theorem getD_mem9 {l : List Int} {v : Int} (h : v ∈ l) : ∃ i, i < l.length ∧ l.getD i 0 = v := by
  obtain ⟨i, hi, e⟩ := List.getElem_of_mem h
  exact ⟨i, hi, by simp [List.getD, hi, e]⟩
theorem mem_getD9 {l : List Int} {i : Nat} (h : i < l.length) : l.getD i 0 ∈ l := by
  simp [List.getD, h]
structure Below9 (n : Nat) (L : List T3) (x : List Int) : Prop where
  len : x.length = n
  ge : ∀ v, v < n → 0 ≤ x.getD v 0
  sol : sols n L fun v => x.getD v 0
  held : ∀ v, v < n → 0 < x.getD v 0 → ∃ j, j < L.length ∧ qn L j = v ∧ tightB x (bk L j) = true
  le : ∀ y : Nat → Int, sols n L y → (∀ v, v < n → 0 ≤ y v) → ∀ v, v < n → x.getD v 0 ≤ y v
theorem fin_below {n : Nat} {L : List T3} (hL : okL n L) (h : (fin n L).last = -1) : Below9 n L (fin n L).x := by
  refine ⟨(fin_len n L).1, fun v hv => (fin_bd hL hv).1, fin_sol hL h, fun v hv hp => ?_, fun y hy h0 => fin_le hy hL h0⟩
  obtain ⟨K, t, hI, _, _⟩ := fin_inv hL
  obtain ⟨j, hj, e, e2⟩ := hI.held h hv hp
  refine ⟨j, hj, e, ?_⟩
  subst e
  unfold tightB gi
  simp only [beq_iff_eq]
  show (fin n L).x.getD (qn L j) 0 - (fin n L).x.getD (pn L j) 0 = (bk L j).r
  omega
theorem solve_below {n : Int} {L : List T3} (h : solveE n L = 0) : ∃ m : Nat, n = (m : Int) ∧ m ≤ 4096 ∧ L.length ≤ 4096 ∧ okL m L ∧ Below9 m L (solveR n L) := by
  obtain ⟨h1, h2⟩ := solveE_ok h
  obtain ⟨m, hm, h3, h4, hL⟩ := chkN_ok h1
  subst hm
  refine ⟨m, rfl, h3, h4, hL, ?_⟩
  unfold solveR
  rw [if_pos h]
  exact fin_below hL h2
theorem solve_sol {n : Nat} {L : List T3} (hc : chkN n L = 0) {y : Nat → Int} (hy : sols n L y) : solveE n L = 0 := by
  obtain ⟨m, hm, h3, h4, hL⟩ := chkN_ok hc
  have e : m = n := by omega
  subst e
  unfold solveE
  rw [if_pos hc]
  simp only [Int.toNat_natCast]
  rw [if_pos (fin_ok hL hy)]
theorem solve_bd {n : Nat} {L : List T3} (h : solveE n L = 0) (hn : n ≤ 200) (hl : L.length ≤ 400) : ∀ v ∈ solveR n L, -1099511627776 ≤ v ∧ v ≤ 1099511627776 := by
  intro v hv
  obtain ⟨h1, h2⟩ := solveE_ok h
  obtain ⟨m, hm, h3, h4, hL⟩ := chkN_ok h1
  have e : m = n := by omega
  subst e
  unfold solveR at hv
  rw [if_pos h] at hv
  obtain ⟨i, hi, rfl⟩ := getD_mem9 hv
  simp only [Int.toNat_natCast] at hi ⊢
  rw [(fin_len _ _).1] at hi
  have := fin_bd hL hi
  have h5 : m * L.length + L.length ≤ 200 * 400 + 400 := Nat.add_le_add (Nat.mul_le_mul hn hl) hl
  have h6 : ((m * L.length + L.length : Nat) : Int) * 1048576 ≤ ((200 * 400 + 400 : Nat) : Int) * 1048576 := Int.mul_le_mul_of_nonneg_right (by omega) (by omega)
  omega

/-! The greatest numbers. -/
theorem topE_ok {n : Int} {L : List T3} {most : Int} (h : topE n L most = 0) : ∃ m : Nat, n = (m : Int) ∧ m ≤ 4096 ∧ L.length ≤ 4096 ∧ okL m L ∧ chkN n L = 0 ∧ (0 ≤ most ∧ most ≤ 1099511627776) ∧ (fin m L).last = -1 ∧ topR n L most = topL m L most ∧ ∀ v ∈ topL m L most, 0 ≤ v := by
  have hR : topR n L most = topL n.toNat L most := by
    unfold topR
    rw [if_pos h]
  unfold topE at h
  split at h
  · rename_i h1
    obtain ⟨m, hm, h3, h4, hL⟩ := chkN_ok h1
    subst hm
    simp only [Int.toNat_natCast] at h hR
    split at h
    · rename_i h2
      split at h
      · rename_i h5
        split at h
        · rename_i h6
          refine ⟨m, rfl, h3, h4, hL, h1, by simpa [topOk] using h2, h5, hR, fun v hv => ?_⟩
          simpa using List.all_eq_true.1 h6 v hv
        · omega
      · omega
    · omega
  · rename_i h1
    exact absurd h h1
theorem topL_at {m : Nat} {L : List T3} {most : Int} {v : Nat} (hv : v < m) : (topL m L most).getD v 0 = most - (fin m (turnL L)).x.getD v 0 := by
  have := (fin_len m (turnL L)).1
  simp [topL, List.getD, show v < (fin m (turnL L)).x.length by omega]
theorem topL_len (m : Nat) (L : List T3) (most : Int) : (topL m L most).length = m := by
  simp [topL, (fin_len m (turnL L)).1]
structure Most9 (n : Nat) (L : List T3) (most : Int) (y : List Int) : Prop where
  len : y.length = n
  ge : ∀ v, v < n → 0 ≤ y.getD v 0
  le : ∀ v, v < n → y.getD v 0 ≤ most
  sol : sols n L fun v => y.getD v 0
  up : ∀ z : Nat → Int, sols n L z → (∀ v, v < n → z v ≤ most) → ∀ v, v < n → z v ≤ y.getD v 0
theorem top_sol {m : Nat} {L : List T3} (hL : okL m L) (h : (fin m L).last = -1) (most : Int) : (∀ v, v < m → (topL m L most).getD v 0 ≤ most) ∧ sols m L (fun v => (topL m L most).getD v 0) ∧ ∀ z : Nat → Int, sols m L z → (∀ v, v < m → z v ≤ most) → ∀ v, v < m → z v ≤ (topL m L most).getD v 0 := by
  have hT := fin_below (okL_turn hL) (fin_turn_ok hL h)
  refine ⟨fun v hv => ?_, fun j hj => ?_, fun z hz hm v hv => ?_⟩
  · rw [topL_at hv]
    have := hT.ge v hv
    omega
  · obtain ⟨hp, hq, _, _⟩ := okB_pq hL hj
    (try simp only)
    rw [topL_at hp, topL_at hq]
    have := hT.sol j (by rw [turnL_len]; exact hj)
    simp only [pn_turn, qn_turn, bk_turn] at this
    unfold turn at this
    simp only at this
    omega
  · rw [topL_at hv]
    have := hT.le (fun v => most - z v) (sols_turn hz most) (fun v hv => by have := hm v hv; omega) v hv
    omega
theorem top_is {n : Int} {L : List T3} {most : Int} (h : topE n L most = 0) : ∃ m : Nat, n = (m : Int) ∧ chkN n L = 0 ∧ solveE n L = 0 ∧ (0 ≤ most ∧ most ≤ 1099511627776) ∧ Most9 m L most (topR n L most) := by
  obtain ⟨m, rfl, h1, h2, hL, h3, h4, h5, h6, h7⟩ := topE_ok h
  obtain ⟨a, b, c⟩ := top_sol hL h5 most
  refine ⟨m, rfl, h3, ?_, h4, ?_⟩
  · unfold solveE
    rw [if_pos h3, if_pos (by simpa using h5)]
  · rw [h6]
    exact ⟨topL_len _ _ _, fun v hv => h7 _ (mem_getD9 (by rw [topL_len]; exact hv)), a, b, c⟩
/-- What a refusal of the greatest numbers says. -/
theorem top_no {n : Nat} {L : List T3} {most : Int} (h : topE n L most = 90) (hs : solveE n L = 0) {z : Nat → Int} (hz : sols n L z) (h0 : ∀ v, v < n → 0 ≤ z v ∧ z v ≤ most) : False := by
  obtain ⟨h1, h2⟩ := solveE_ok hs
  obtain ⟨m, hm, h3, h4, hL⟩ := chkN_ok h1
  have e : m = n := by omega
  subst e
  unfold topE at h
  simp only [Int.toNat_natCast] at h h2
  rw [if_pos h1, if_pos h2] at h
  split at h
  · split at h
    · omega
    · rename_i h6
      apply h6
      refine List.all_eq_true.2 fun v hv => ?_
      obtain ⟨i, hi, rfl⟩ := getD_mem9 hv
      rw [topL_len] at hi
      have := (top_sol hL h2 most).2.2 z hz (fun v hv => (h0 v hv).2) i hi
      have := h0 i hi
      simp only [decide_eq_true_eq]
      omega
  · omega
theorem topE_ne {n : Int} {L : List T3} {most : Int} (h : solveE n L ≠ 0) : topE n L most ≠ 0 := by
  intro h2
  obtain ⟨m, _, _, h3, _⟩ := top_is h2
  exact h h3
theorem topR_nil {n : Int} {L : List T3} {most : Int} (h : topE n L most ≠ 0) : topR n L most = [] := by
  unfold topR
  rw [if_neg h]
theorem solveR_nil {n : Int} {L : List T3} (h : solveE n L ≠ 0) : solveR n L = [] := by
  unfold solveR
  rw [if_neg h]
theorem topR_lt (n : Int) (L : List T3) (most : Int) : (topR n L most).length ≤ 4096 := by
  by_cases h : topE n L most = 0
  · obtain ⟨m, rfl, h1, _, _, _, _, _, h6, _⟩ := topE_ok h
    rw [h6, topL_len]
    exact h1
  · rw [topR_nil h]
    simp
theorem tightR_lt (n : Int) (L : List T3) : (tightR n L).length ≤ 4096 := by
  unfold tightR
  split
  · rename_i h
    obtain ⟨m, rfl, _, h4, _⟩ := solve_below h
    have := tightL_len (solveR m L) L L.length
    omega
  · simp

/-! One bound more, and turned round. -/
theorem sols_more {n : Nat} {L : List T3} {b : T3} {y : Nat → Int} (h : sols n (L ++ [b]) y) : sols n L y := by
  intro j hj
  have := h j (by simp; omega)
  have e : bk (L ++ [b]) j = bk L j := by simp [bk, List.getD, List.getElem?_append_left hj]
  unfold pn qn at this ⊢
  rw [e] at this
  exact this
theorem chk_more {n : Int} {L : List T3} {b : T3} (h : chkN n (L ++ [b]) = 0) : chkN n L = 0 := by
  unfold chkN at *
  split
  · rename_i h1
    rw [if_pos h1] at h
    omega
  · rename_i h1
    rw [if_neg h1] at h
    split at h
    · omega
    · rename_i h2
      simp only [List.length_append, List.length_cons, List.length_nil] at h2
      rw [if_neg (by omega)]
      split at h
      · rename_i h3
        unfold allB at h3 ⊢
        rw [List.all_append, Bool.and_eq_true] at h3
        rw [if_pos h3.1]
      · omega
theorem solve_more {n : Int} {L : List T3} {b : T3} (h : solveE n (L ++ [b]) = 0) : solveE n L = 0 ∧ ∀ v : Nat, (v : Int) < n → (solveR n L).getD v 0 ≤ (solveR n (L ++ [b])).getD v 0 := by
  obtain ⟨m, rfl, _, _, hL, h1⟩ := solve_below h
  have hs := sols_more h1.sol
  have h2 := solve_sol (chk_more (solveE_ok h).1) hs
  refine ⟨h2, fun v hv => ?_⟩
  obtain ⟨m2, hm, _, _, hL2, h3⟩ := solve_below h2
  have e : m2 = m := by omega
  subst e
  exact h3.le _ hs h1.ge v (by omega)
theorem solve_turn (n : Int) (L : List T3) : solveE n (turnL L) = 0 ↔ solveE n L = 0 := by
  by_cases h : chkN n L = 0
  · obtain ⟨m, rfl, _, _, hL⟩ := chkN_ok h
    unfold solveE
    rw [chkN_turn, if_pos h, if_pos h]
    simp only [Int.toNat_natCast]
    by_cases h2 : (fin m L).last = -1
    · rw [if_pos h2, if_pos (fin_turn_ok hL h2)]
    · rw [if_neg h2, if_neg (fun h3 => h2 ((fin_turn_iff hL).1 h3))]
  · unfold solveE
    rw [chkN_turn, if_neg h, if_neg h]
theorem top_turn {n : Int} {L : List T3} {most : Int} (h : topE n L most = 0) : ∀ v : Nat, (v : Int) < n → (topR n L most).getD v 0 = most - (solveR n (turnL L)).getD v 0 := by
  obtain ⟨m, rfl, h1, h2, hL, h3, h4, h5, h6, h7⟩ := topE_ok h
  intro v hv
  rw [h6, topL_at (by omega)]
  have : solveE m (turnL L) = 0 := (solve_turn m L).2 (by unfold solveE; rw [if_pos h3, if_pos (by simpa using h5)])
  unfold solveR
  rw [if_pos this]
  rfl

/-! The loop. -/
theorem sumF_rev (f : Nat → Int) : ∀ p, sumF (fun i => f (p - 1 - i)) p = sumF f p := by
  intro p
  have key : ∀ q, q ≤ p → sumF (fun i => f (p - 1 - i)) q = sumF f p - sumF f (p - q) := by
    intro q
    induction q with
    | zero => intro _; simp [sumF]
    | succ q ih =>
      intro hq
      have h1 := ih (by omega)
      have e : p - q = (p - (q + 1)) + 1 := by omega
      rw [e] at h1
      simp only [sumF] at h1 ⊢
      rw [h1, show p - 1 - q = p - (q + 1) by omega]
      omega
  have := key p (Nat.le_refl _)
  rw [this, Nat.sub_self]
  simp [sumF]
structure Loop9 (n : Nat) (L : List T3) (r : List Int) : Prop where
  pos : 0 < r.length
  le : r.length ≤ n
  nat : ∀ i, i < r.length → ∃ j : Nat, r.getD i 0 = (j : Int) ∧ j < L.length ∧ r.getD 0 0 ≤ (j : Int)
  next : ∀ i, i < r.length → qn L (r.getD i 0).toNat = pn L (r.getD ((i + 1) % r.length) 0).toNat
  inj : ∀ i j, i < j → j < r.length → pn L (r.getD i 0).toNat ≠ pn L (r.getD j 0).toNat
  sum : 0 < sumF (fun i => (bk L (r.getD i 0).toNat).r) r.length
theorem loopL_at {L : List T3} {s : St} {u p b i : Nat} (h : i < p) : (loopL L s u p b).getD i 0 = (mdB L s u (b + p - i) : Int) := by
  simp [loopL, List.getD, h]
theorem sumF_congr {f g : Nat → Int} : ∀ a, (∀ i, i < a → f i = g i) → sumF f a = sumF g a := by
  intro a
  induction a with
  | zero => intro _; rfl
  | succ a ih =>
    intro h
    simp only [sumF]
    rw [ih fun i hi => h i (by omega), h a (by omega)]
theorem loop_is {n : Nat} {L : List T3} {s : St} {t : Nat → Nat} {u p b : Nat} (hc : Cyc n L s t u p) (hb : Arg L s u p b) : Loop9 n L (loopL L s u p b) := by
  have hlen : (loopL L s u p b).length = p := by simp [loopL]
  have hlt := hb.lt
  have hz : (loopL L s u p b).getD 0 0 = (mdB L s u b : Int) := by
    rw [loopL_at hc.pos, Nat.sub_zero, hc.per]
  have hmod : ∀ a, mdB L s u a = mdB L s u (a % p) := fun a => by
    unfold mdB
    rw [← it_mod hc.back]
  refine ⟨by rw [hlen]; exact hc.pos, by rw [hlen]; exact hc.le, ?_, ?_, ?_, ?_⟩
  · rw [hlen]
    intro i hi
    refine ⟨_, loopL_at hi, (hc.md _).1.jl, ?_⟩
    rw [hz, hmod (b + p - i)]
    have := hb.le ((b + p - i) % p) (Nat.mod_lt _ (by omega))
    omega
  · rw [hlen]
    intro i hi
    have e : (loopL L s u p b).getD ((i + 1) % p) 0 = (mdB L s u (b + p - (i + 1)) : Int) := by
      by_cases h1 : i + 1 = p
      · rw [h1, Nat.mod_self, hz, show b + p - p = b by omega]
      · rw [Nat.mod_eq_of_lt (by omega), loopL_at (by omega)]
    rw [e, loopL_at hi]
    simp only [Int.toNat_natCast]
    obtain ⟨h1, h2⟩ := hc.md (b + p - i)
    obtain ⟨h3, h4⟩ := hc.md (b + p - (i + 1))
    rw [h1.qv, h4, show b + p - (i + 1) + 1 = b + p - i by omega]
  · rw [hlen]
    intro i j hij hj
    rw [loopL_at (by omega), loopL_at hj]
    simp only [Int.toNat_natCast]
    rw [(hc.md _).2, (hc.md _).2]
    have h1 := (hc.shift (b + 1)).inj (a := p - 1 - j) (b := p - 1 - i) (by omega) (by omega)
    rw [← it_add, ← it_add] at h1
    rw [show p - 1 - j + (b + 1) = b + p - j + 1 - 1 + 0 by omega] at h1
    rw [show b + p - i + 1 = (p - 1 - i + (b + 1)) + 1 by omega, show b + p - j + 1 = (b + p - j + 1 - 1 + 0) + 1 by omega]
    intro e
    have h2 := (hc.shift (b + 2)).inj (a := p - 1 - j) (b := p - 1 - i) (by omega) (by omega)
    rw [← it_add, ← it_add] at h2
    apply h2
    rw [show p - 1 - j + (b + 2) = (b + p - j + 1 - 1 + 0) + 1 by omega, show p - 1 - i + (b + 2) = (p - 1 - i + (b + 1)) + 1 by omega]
    exact e.symm
  · rw [hlen]
    have h1 := (hc.shift (b + 1)).sum
    rw [← sumF_rev] at h1
    rw [sumF_congr (g := fun i => (bk L (mdB L s (itB L s (b + 1) u) (p - 1 - i))).r) p fun i hi => ?_]
    · exact h1
    · rw [loopL_at hi]
      simp only [Int.toNat_natCast]
      rw [md_add, show p - 1 - i + (b + 1) = b + p - i by omega]
theorem loop_says {n : Int} {L : List T3} {R : List Int} {E : Int} (h : LoopIs n L R E) : (E ≠ 0 ∧ E = solveE n L ∧ R = []) ∨ (E = 0 ∧ solveE n L = 0 ∧ R = []) ∨ (E = 0 ∧ solveE n L = 90 ∧ ∃ m : Nat, n = (m : Int) ∧ okL m L ∧ L.length ≤ 4096 ∧ Loop9 m L R) := by
  cases h with
  | bad h =>
    left
    refine ⟨h, ?_, rfl⟩
    unfold solveE
    rw [if_neg h]
  | none h hl =>
    right; left
    refine ⟨rfl, ?_, rfl⟩
    unfold solveE
    rw [if_pos h, if_pos hl]
  | some h v p b t hv hl hh hc hb =>
    right; right
    obtain ⟨m, rfl, _, h4, hL⟩ := chkN_ok h
    refine ⟨rfl, ?_, m, rfl, hL, h4, ?_⟩
    · unfold solveE
      rw [if_pos h, if_neg (by rw [hl]; omega)]
    · exact loop_is hc hb
end Go.Proofs.Ytjippgflempdmaa
