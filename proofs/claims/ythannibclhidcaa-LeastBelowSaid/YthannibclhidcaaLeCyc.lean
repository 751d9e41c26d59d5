/- Layer 9: what walks back goes round, in plain Lean. -/
import Derived.Test.YthannibclhidcaaLePlain
namespace Go.Proofs.Ythannibclhidcaa
set_option linter.unusedVariables false
set_option linter.unusedSimpArgs false
open Go.RowKit

theorem pigeon : ∀ (n : Nat) (f : Nat → Nat), (∀ a, a ≤ n → f a < n) → ∃ i j, i < j ∧ j ≤ n ∧ f i = f j := by
  intro n
  induction n with
  | zero => intro f h; have := h 0 (Nat.le_refl _); omega
  | succ n ih =>
    intro f h
    by_cases hc : ∃ a, a ≤ n ∧ f a = f (n + 1)
    · obtain ⟨a, ha, e⟩ := hc
      exact ⟨a, n + 1, by omega, Nat.le_refl _, e⟩
    · have hne : ∀ a, a ≤ n → f a ≠ f (n + 1) := fun a ha e => hc ⟨a, ha, e⟩
      have hn1 := h (n + 1) (Nat.le_refl _)
      obtain ⟨i, j, hij, hj, e⟩ := ih (fun a => if f a = n then f (n + 1) else f a) (fun a ha => by
        have h1 := h a (by omega)
        have h2 := hne a ha
        show (if f a = n then f (n + 1) else f a) < n
        split <;> omega)
      refine ⟨i, j, hij, by omega, ?_⟩
      have hi2 := hne i (by omega)
      have hj2 := hne j (by omega)
      (try simp only at e)
      by_cases e1 : f i = n
      · by_cases e2 : f j = n
        · omega
        · rw [if_pos e1, if_neg e2] at e
          omega
      · by_cases e2 : f j = n
        · rw [if_neg e1, if_pos e2] at e
          omega
        · rw [if_neg e1, if_neg e2] at e
          exact e

def bkw (L : List T3) (s : St) (v : Nat) : Nat := pn L (s.m.getD v 0).toNat
def itB (L : List T3) (s : St) : Nat → Nat → Nat
  | 0, v => v
  | a + 1, v => bkw L s (itB L s a v)
theorem it_add (L : List T3) (s : St) (a b v : Nat) : itB L s (a + b) v = itB L s a (itB L s b v) := by
  induction a with
  | zero => rw [Nat.zero_add]; rfl
  | succ a ih =>
    rw [Nat.add_right_comm]
    simp only [itB, ih]
theorem it_comm (L : List T3) (s : St) (a b v : Nat) : itB L s a (itB L s b v) = itB L s b (itB L s a v) := by
  rw [← it_add, ← it_add, Nat.add_comm]

/-- A number that was changed: by which bound, and what holds of it. -/
structure Has (n : Nat) (L : List T3) (s : St) (t : Nat → Nat) (v j : Nat) : Prop where
  vn : v < n
  jl : j < L.length
  made : s.m.getD v 0 = (j : Int)
  qv : qn L j = v
  tle : t v ≤ t (pn L j) + L.length
  xle : s.x.getD v 0 ≤ s.x.getD (pn L j) 0 + (bk L j).r
  xlt : t v ≤ t (pn L j) → s.x.getD v 0 < s.x.getD (pn L j) 0 + (bk L j).r
theorem Has.bkw {n : Nat} {L : List T3} {s : St} {t : Nat → Nat} {v j : Nat} (h : Has n L s t v j) : bkw L s v = pn L j := by
  unfold Go.Proofs.Ythannibclhidcaa.bkw
  rw [h.made]
  rfl
theorem Inv.has {n : Nat} {L : List T3} {K i : Nat} {s : St} {t : Nat → Nat} (h : Inv n L K i s t) {v : Nat} (hv : v < n) (ht : 1 ≤ t v) : ∃ j, Has n L s t v j := by
  rcases h.pr v hv with ⟨_, _, h1⟩ | ⟨j, hj, a, b, c, d, e, f, g⟩
  · omega
  · exact ⟨j, hv, hj, a, b, d, e, f⟩
theorem Inv.chain {n : Nat} {L : List T3} {K i : Nat} {s : St} {t : Nat → Nat} (h : Inv n L K i s t) (hL : okL n L) {v : Nat} (hv : v < n) (ht : (n - 1) * L.length < t v) : ∀ a, a ≤ n → itB L s a v < n ∧ (n - 1) * L.length < t (itB L s a v) + a * L.length := by
  intro a
  induction a with
  | zero => exact fun _ => ⟨hv, by rw [Nat.zero_mul]; exact ht⟩
  | succ a ih =>
    intro ha
    obtain ⟨h1, h2⟩ := ih (by omega)
    have h3 : a * L.length ≤ (n - 1) * L.length := Nat.mul_le_mul_right _ (by omega)
    obtain ⟨j, hj⟩ := h.has h1 (by omega)
    have h4 := hj.bkw
    have h5 := hj.tle
    obtain ⟨hp, _, _, _⟩ := okB_pq hL hj.jl
    show Go.Proofs.Ythannibclhidcaa.bkw L s (itB L s a v) < n ∧ _ < t (Go.Proofs.Ythannibclhidcaa.bkw L s (itB L s a v)) + _
    rw [h4]
    rw [Nat.add_mul]
    exact ⟨hp, by omega⟩
/-- A round: p steps back lead from u to u, by bounds all the way, and no fewer do. -/
structure Cyc (n : Nat) (L : List T3) (s : St) (t : Nat → Nat) (u p : Nat) : Prop where
  pos : 1 ≤ p
  back : itB L s p u = u
  has : ∀ a, ∃ j, Has n L s t (itB L s a u) j
  min : ∀ q, 1 ≤ q → q < p → itB L s q u ≠ u
theorem least_nat {P : Nat → Prop} (h : ∃ n, P n) : ∃ n, P n ∧ ∀ m, m < n → ¬ P m := by
  obtain ⟨n, hn⟩ := h
  induction n using Nat.strongRecOn with
  | ind n ih =>
    by_cases hm : ∃ m, m < n ∧ P m
    · obtain ⟨m, h1, h2⟩ := hm
      exact ih m h1 h2
    · exact ⟨n, hn, fun m h1 h2 => hm ⟨m, h1, h2⟩⟩
theorem it_mul {L : List T3} {s : St} {p u : Nat} (h : itB L s p u = u) : ∀ k, itB L s (k * p) u = u := by
  intro k
  induction k with
  | zero => rw [Nat.zero_mul]; rfl
  | succ k ih => rw [Nat.add_mul, Nat.one_mul, it_add, h, ih]
theorem it_mod {L : List T3} {s : St} {p u : Nat} (h : itB L s p u = u) (a : Nat) : itB L s a u = itB L s (a % p) u := by
  have e := Nat.mod_add_div a p
  rw [Nat.mul_comm] at e
  conv => lhs; rw [← e]
  rw [it_add, it_mul h]
theorem Inv.cyc {n : Nat} {L : List T3} {K : Nat} {s : St} {t : Nat → Nat} (h : Inv n L K L.length s t) (hL : okL n L) (hK : K = (n - 1) * L.length) {v : Nat} (hv : v < n) (ht : K < t v) : (∀ a, a < n → ∃ j, Has n L s t (itB L s a v) j) ∧ ∃ p, Cyc n L s t (itB L s n v) p := by
  subst hK
  have hc := h.chain hL hv ht
  have hh : ∀ a, a < n → ∃ j, Has n L s t (itB L s a v) j := fun a ha => by
    obtain ⟨h1, h2⟩ := hc a (by omega)
    have h3 : a * L.length ≤ (n - 1) * L.length := Nat.mul_le_mul_right _ (by omega)
    exact h.has h1 (by omega)
  refine ⟨hh, ?_⟩
  obtain ⟨i, j, hij, hj, e⟩ := pigeon n (fun a => itB L s a v) fun a ha => (hc a ha).1
  (try simp only at e)
  have hp : itB L s (j - i) (itB L s i v) = itB L s i v := by
    rw [← it_add, show j - i + i = j by omega]
    exact e.symm
  have hu : itB L s n v = itB L s (n - i) (itB L s i v) := by rw [← it_add, show n - i + i = n by omega]
  have hpu : itB L s (j - i) (itB L s n v) = itB L s n v := by rw [hu, it_comm, hp]
  have hall : ∀ a, ∃ k, Has n L s t (itB L s a (itB L s n v)) k := fun a => by
    rw [hu, ← it_add, it_mod hp, ← it_add]
    have : (a + (n - i)) % (j - i) < j - i := Nat.mod_lt _ (by omega)
    exact hh _ (by omega)
  obtain ⟨p, ⟨h1, h2⟩, h3⟩ := least_nat (P := fun q => 1 ≤ q ∧ itB L s q (itB L s n v) = itB L s n v) ⟨j - i, by omega, hpu⟩
  exact ⟨p, h1, h2, hall, fun q hq hqp e => h3 q hqp ⟨hq, e⟩⟩
theorem Cyc.inj {n : Nat} {L : List T3} {s : St} {t : Nat → Nat} {u p : Nat} (h : Cyc n L s t u p) {a b : Nat} (hab : a < b) (hb : b < p) : itB L s a u ≠ itB L s b u := by
  intro e
  refine h.min (p - b + a) (by omega) (by omega) ?_
  rw [it_add, e, ← it_add, show p - b + b = p by omega]
  exact h.back
theorem Cyc.le {n : Nat} {L : List T3} {s : St} {t : Nat → Nat} {u p : Nat} (h : Cyc n L s t u p) : p ≤ n := by
  apply Classical.byContradiction
  intro hn
  obtain ⟨i, j, hij, hj, e⟩ := pigeon n (fun a => itB L s a u) fun a ha => by
    obtain ⟨k, hk⟩ := h.has a
    exact hk.vn
  exact h.inj hij (by omega) e
theorem Cyc.shift {n : Nat} {L : List T3} {s : St} {t : Nat → Nat} {u p : Nat} (h : Cyc n L s t u p) (b : Nat) : Cyc n L s t (itB L s b u) p := by
  refine ⟨h.pos, by rw [it_comm, h.back], fun a => by rw [← it_add]; exact h.has _, fun q hq hqp e => ?_⟩
  refine h.min q hq hqp ?_
  have e2 : itB L s (b * p - b) (itB L s q (itB L s b u)) = itB L s (b * p - b) (itB L s b u) := by rw [e]
  have hbp : b ≤ b * p := Nat.le_mul_of_pos_right _ h.pos
  rw [← it_add, ← it_add, ← it_add, show b * p - b + q + b = q + b * p by omega, show b * p - b + b = b * p by omega, it_add, it_mul h.back] at e2
  exact e2
/-- The bound by which the a-th number on the way back was made. -/
def mdB (L : List T3) (s : St) (u a : Nat) : Nat := (s.m.getD (itB L s a u) 0).toNat
theorem Cyc.md {n : Nat} {L : List T3} {s : St} {t : Nat → Nat} {u p : Nat} (h : Cyc n L s t u p) (a : Nat) : Has n L s t (itB L s a u) (mdB L s u a) ∧ pn L (mdB L s u a) = itB L s (a + 1) u := by
  obtain ⟨j, hj⟩ := h.has a
  have e : mdB L s u a = j := by
    unfold mdB
    rw [hj.made]
    rfl
  rw [e]
  exact ⟨hj, hj.bkw.symm⟩
def sumF (f : Nat → Int) : Nat → Int
  | 0 => 0
  | a + 1 => sumF f a + f a
theorem sumF_tel (g : Nat → Int) : ∀ a, sumF (fun i => g i - g (i + 1)) a = g 0 - g a := by
  intro a
  induction a with
  | zero => simp [sumF]
  | succ a ih => simp only [sumF, ih]; omega
theorem sumF_le {f g : Nat → Int} : ∀ a, (∀ i, i < a → f i ≤ g i) → sumF f a ≤ sumF g a := by
  intro a
  induction a with
  | zero => intro _; simp [sumF]
  | succ a ih =>
    intro h
    have h1 := ih fun i hi => h i (by omega)
    have h2 := h a (by omega)
    simp only [sumF]
    omega
theorem sumF_lt {f g : Nat → Int} : ∀ a, (∀ i, i < a → f i ≤ g i) → (∃ i, i < a ∧ f i < g i) → sumF f a < sumF g a := by
  intro a
  induction a with
  | zero => rintro _ ⟨i, hi, _⟩; omega
  | succ a ih =>
    rintro h ⟨i, hi, hl⟩
    have h2 := h a (by omega)
    simp only [sumF]
    by_cases e : i = a
    · subst e
      have h1 := sumF_le i fun j hj => h j (by omega)
      omega
    · have h1 := ih (fun j hj => h j (by omega)) ⟨i, by omega, hl⟩
      omega
/-- A round can't hold: its bounds' sum is above 0. -/
theorem Cyc.sum {n : Nat} {L : List T3} {s : St} {t : Nat → Nat} {u p : Nat} (h : Cyc n L s t u p) : 0 < sumF (fun a => (bk L (mdB L s u a)).r) p := by
  have h0 := sumF_tel (fun a => s.x.getD (itB L s a u) 0) p
  have e0 : s.x.getD (itB L s 0 u) 0 = s.x.getD (itB L s p u) 0 := by rw [h.back]; rfl
  (try simp only at h0)
  rw [e0, Int.sub_self] at h0
  rw [← h0]
  refine sumF_lt p (fun a _ => ?_) ?_
  · obtain ⟨h1, h2⟩ := h.md a
    have := h1.xle
    rw [h2] at this
    omega
  · apply Classical.byContradiction
    intro hn
    have hlt : ∀ a, a < p → t (itB L s (a + 1) u) < t (itB L s a u) := fun a ha => by
      obtain ⟨h1, h2⟩ := h.md a
      apply Classical.byContradiction
      intro hge
      have := h1.xlt (by rw [h2]; omega)
      rw [h2] at this
      exact hn ⟨a, ha, by omega⟩
    have hdec : ∀ a, a ≤ p → t (itB L s a u) + a ≤ t u := by
      intro a
      induction a with
      | zero => intro _; exact Nat.le_refl _
      | succ a ih =>
        intro ha
        have h1 := ih (by omega)
        have h2 := hlt a (by omega)
        omega
    have h1 := hdec p (Nat.le_refl _)
    rw [h.back] at h1
    have := h.pos
    omega
/-- So where numbers keep all bounds there is no round. -/
theorem Cyc.no {n : Nat} {L : List T3} {s : St} {t : Nat → Nat} {u p : Nat} (h : Cyc n L s t u p) {y : Nat → Int} (hy : sols n L y) : False := by
  have h1 := h.sum
  have h0 := sumF_tel (fun a => y (itB L s a u)) p
  have e0 : y (itB L s 0 u) = y (itB L s p u) := by rw [h.back]; rfl
  (try simp only at h0)
  rw [e0, Int.sub_self] at h0
  have h2 : sumF (fun a => (bk L (mdB L s u a)).r) p ≤ sumF (fun a => y (itB L s a u) - y (itB L s (a + 1) u)) p := sumF_le p fun a _ => by
    obtain ⟨h3, h4⟩ := h.md a
    have := hy _ h3.jl
    rw [h4, h3.qv] at this
    omega
  omega
theorem fin_ok {n : Nat} {L : List T3} (hL : okL n L) {y : Nat → Int} (hy : sols n L y) : (fin n L).last = -1 := by
  obtain ⟨K, t, hI, h1, _⟩ := fin_inv hL
  rcases h1 with h1 | ⟨hn, hK⟩
  · exact h1
  · rcases hI.last with ⟨h2, _⟩ | ⟨v, hv, _, ht⟩
    · exact h2
    · obtain ⟨_, p, hc⟩ := hI.cyc hL hK hv ht
      exact (hc.no hy).elim
theorem fin_sol {n : Nat} {L : List T3} (hL : okL n L) (h : (fin n L).last = -1) : sols n L fun v => (fin n L).x.getD v 0 := by
  obtain ⟨K, t, hI, _, _⟩ := fin_inv hL
  exact hI.kept h
theorem fin_bd {n : Nat} {L : List T3} (hL : okL n L) {v : Nat} (hv : v < n) : 0 ≤ (fin n L).x.getD v 0 ∧ (fin n L).x.getD v 0 ≤ ((n * L.length + L.length : Nat) : Int) * 1048576 := by
  obtain ⟨K, t, hI, _, hK⟩ := fin_inv hL
  have := hI.bd v hv
  have h2 : ((K + L.length : Nat) : Int) * 1048576 ≤ ((n * L.length + L.length : Nat) : Int) * 1048576 := Int.mul_le_mul_of_nonneg_right (by omega) (by omega)
  omega
end Go.Proofs.Ythannibclhidcaa
