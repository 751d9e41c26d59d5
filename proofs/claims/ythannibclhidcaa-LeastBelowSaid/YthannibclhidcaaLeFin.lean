/- Layer 9: answers, in plain Lean: the least numbers, the loop that is told, tight bounds, the greatest numbers. -/
import Derived.Test.YthannibclhidcaaLeA
namespace Go.Proofs.Ythannibclhidcaa
set_option linter.unusedVariables false
set_option linter.unusedSimpArgs false
open Go.RowKit

/-! The loop. -/
structure Arg (L : List T3) (s : St) (u p b : Nat) : Prop where
  lt : b < p
  le : ∀ a, a < p → mdB L s u b ≤ mdB L s u a
theorem arg_ex (L : List T3) (s : St) (u : Nat) : ∀ p, 1 ≤ p → ∃ b, Arg L s u p b := by
  intro p
  induction p with
  | zero => intro h; omega
  | succ p ih =>
    intro _
    by_cases hp : p = 0
    · subst hp
      exact ⟨0, by omega, fun a ha => by rw [show a = 0 by omega]; exact Nat.le_refl _⟩
    · obtain ⟨b, h1, h2⟩ := ih (by omega)
      by_cases hb : mdB L s u b ≤ mdB L s u p
      · refine ⟨b, by omega, fun a ha => ?_⟩
        by_cases e : a = p
        · subst e
          exact hb
        · exact h2 a (by omega)
      · refine ⟨p, by omega, fun a ha => ?_⟩
        by_cases e : a = p
        · subst e
          exact Nat.le_refl _
        · have := h2 a (by omega)
          omega
theorem md_add {L : List T3} {s : St} {u a b : Nat} : mdB L s (itB L s b u) a = mdB L s u (a + b) := by
  unfold mdB
  rw [it_add]
theorem Cyc.per {n : Nat} {L : List T3} {s : St} {t : Nat → Nat} {u p : Nat} (h : Cyc n L s t u p) (a : Nat) : mdB L s u (a + p) = mdB L s u a := by
  unfold mdB
  rw [it_add, h.back]
/-- The loop, from its least bound on, forth. -/
def loopL (L : List T3) (s : St) (u p b : Nat) : List Int := (List.range p).map fun i => (mdB L s u (b + p - i) : Int)
inductive LoopIs (n : Int) (L : List T3) : List Int → Int → Prop
  | bad (h : chkN n L ≠ 0) : LoopIs n L [] (chkN n L)
  | none (h : chkN n L = 0) (hl : (fin n.toNat L).last = -1) : LoopIs n L [] 0
  | some (h : chkN n L = 0) (v p b : Nat) (t : Nat → Nat) (hv : v < n.toNat) (hl : (fin n.toNat L).last = (v : Int)) (hh : ∀ a, a < n.toNat → ∃ j, Has n.toNat L (fin n.toNat L) t (itB L (fin n.toNat L) a v) j) (hc : Cyc n.toNat L (fin n.toNat L) t (itB L (fin n.toNat L) n.toNat v) p) (hb : Arg L (fin n.toNat L) (itB L (fin n.toNat L) n.toNat v) p b) : LoopIs n L (loopL L (fin n.toNat L) (itB L (fin n.toNat L) n.toNat v) p b) 0
theorem loop_ex (n : Int) (L : List T3) : ∃ R E, LoopIs n L R E := by
  by_cases h0 : chkN n L = 0
  · by_cases hl : (fin n.toNat L).last = -1
    · exact ⟨_, _, .none h0 hl⟩
    · obtain ⟨m, hm, _, _, hL⟩ := chkN_ok h0
      have em : n.toNat = m := by omega
      rw [em] at hl
      obtain ⟨K, t, hI, h1, _⟩ := fin_inv hL
      rcases h1 with h1 | ⟨hn, hK⟩
      · exact absurd h1 hl
      · rcases hI.last with ⟨h2, _⟩ | ⟨v, hv, e, ht⟩
        · exact absurd h2 hl
        · obtain ⟨hh, p, hc⟩ := hI.cyc hL hK hv ht
          obtain ⟨b, hb⟩ := arg_ex L (fin m L) (itB L (fin m L) m v) p hc.pos
          subst em
          exact ⟨_, _, .some h0 v p b t hv e hh hc hb⟩
  · exact ⟨_, _, .bad h0⟩

/-! The least numbers. -/
def solveE (n : Int) (L : List T3) : Int := if chkN n L = 0 then (if (fin n.toNat L).last = -1 then 0 else 90) else chkN n L
def solveR (n : Int) (L : List T3) : List Int := if solveE n L = 0 then (fin n.toNat L).x else []
theorem solveE_ok {n : Int} {L : List T3} (h : solveE n L = 0) : chkN n L = 0 ∧ (fin n.toNat L).last = -1 := by
  unfold solveE at h
  split at h
  · split at h
    · exact ⟨by assumption, by assumption⟩
    · omega
  · rename_i h0
    exact absurd h h0
theorem solveR_len {n : Int} {L : List T3} (h : solveE n L = 0) : (solveR n L).length = n.toNat := by
  unfold solveR
  rw [if_pos h]
  exact (fin_len _ _).1
theorem solveR_lt (n : Int) (L : List T3) : (solveR n L).length ≤ 4096 := by
  by_cases h : solveE n L = 0
  · rw [solveR_len h]
    obtain ⟨m, hm, h1, _⟩ := chkN_ok (solveE_ok h).1
    omega
  · unfold solveR
    rw [if_neg h]
    simp

/-! Tight bounds. -/
def tightB (x : List Int) (b : T3) : Bool := gi x b.q - gi x b.p == b.r
def tightL (x : List Int) (L : List T3) : Nat → List Int
  | 0 => []
  | i + 1 => if tightB x (bk L i) then tightL x L i ++ [(i : Int)] else tightL x L i
theorem tightL_len (x : List Int) (L : List T3) : ∀ i, (tightL x L i).length ≤ i := by
  intro i
  induction i with
  | zero => simp [tightL]
  | succ i ih =>
    unfold tightL
    split
    · simp; omega
    · omega
def tightR (n : Int) (L : List T3) : List Int := if solveE n L = 0 then tightL (solveR n L) L L.length else []

/-! The first bound that is not kept. -/
def offB (x : List Int) (b : T3) : Bool := decide (gi x b.q < gi x b.p + b.r)
def firstOff (x : List Int) (L : List T3) : Nat → Option Nat
  | 0 => none
  | i + 1 => match firstOff x L i with
    | some j => some j
    | none => if offB x (bk L i) then some i else none
def numB (v : Int) : Bool := decide (-1099511627776 ≤ v ∧ v ≤ 1099511627776)
def keepsE (x : List Int) (L : List T3) : Int := if 4096 < x.length then 4 else if x.all numB then chkN x.length L else 2
def keepsK (x : List Int) (L : List T3) : Int := if keepsE x L = 0 then (match firstOff x L L.length with | some j => (j : Int) | none => -1) else 0
theorem firstOff_none {x : List Int} {L : List T3} : ∀ i, firstOff x L i = none ↔ ∀ j, j < i → offB x (bk L j) = false := by
  intro i
  induction i with
  | zero => simp [firstOff]
  | succ i ih =>
    unfold firstOff
    cases h : firstOff x L i with
    | some j =>
      simp only
      constructor
      · intro h2; cases h2
      · intro h2
        rw [ih.2 fun j hj => h2 j (by omega)] at h
        cases h
    | none =>
      simp only
      have h1 := ih.1 h
      cases hb : offB x (bk L i) with
      | true =>
        simp only [if_true]
        constructor
        · intro h2; cases h2
        · intro h2
          rw [h2 i (by omega)] at hb
          cases hb
      | false =>
        simp only [Bool.false_eq_true, if_false, true_iff]
        intro j hj
        by_cases e : j = i
        · subst e
          exact hb
        · exact h1 j (by omega)
theorem firstOff_some {x : List Int} {L : List T3} {i j : Nat} (h : ∀ k, k < j → offB x (bk L k) = false) (hj : offB x (bk L j) = true) (hi : j < i) : firstOff x L i = some j := by
  induction i with
  | zero => omega
  | succ i ih =>
    unfold firstOff
    by_cases e : j = i
    · subst e
      rw [(firstOff_none j).2 h]
      simp [hj]
    · rw [ih (by omega)]

/-! Bounds turned round. -/
def turn (b : T3) : T3 := ⟨b.q, b.p, b.r⟩
def turnL (L : List T3) : List T3 := L.map turn
theorem turnL_len (L : List T3) : (turnL L).length = L.length := by simp [turnL]
theorem bk_turn (L : List T3) (j : Nat) : bk (turnL L) j = turn (bk L j) := by
  unfold bk turnL List.getD
  rw [List.getElem?_map]
  cases L[j]? <;> rfl
theorem pn_turn (L : List T3) (j : Nat) : pn (turnL L) j = qn L j := by
  unfold pn qn
  rw [bk_turn]
  rfl
theorem qn_turn (L : List T3) (j : Nat) : qn (turnL L) j = pn L j := by
  unfold pn qn
  rw [bk_turn]
  rfl
theorem okL_turn {n : Nat} {L : List T3} (h : okL n L) : okL n (turnL L) := by
  intro j hj
  rw [turnL_len] at hj
  have := h j hj
  rw [bk_turn]
  unfold okB turn at *
  exact ⟨this.2.1, this.1, this.2.2⟩
theorem chkN_turn (n : Int) (L : List T3) : chkN n (turnL L) = chkN n L := by
  have : allB n (turnL L) = allB n L := by
    unfold allB turnL
    rw [List.all_map]
    congr 1
    funext b
    unfold okBb turn
    simp only [Function.comp, decide_eq_decide]
    exact ⟨fun h => ⟨h.2.1, h.1, h.2.2⟩, fun h => ⟨h.2.1, h.1, h.2.2⟩⟩
  unfold chkN
  rw [turnL_len, this]
theorem sols_turn {n : Nat} {L : List T3} {y : Nat → Int} (h : sols n L y) (c : Int) : sols n (turnL L) fun v => c - y v := by
  intro j hj
  rw [turnL_len] at hj
  have := h j hj
  simp only [pn_turn, qn_turn, bk_turn]
  show c - y (qn L j) + (turn (bk L j)).r ≤ c - y (pn L j)
  unfold turn
  simp only
  omega
theorem turn_turn (L : List T3) : turnL (turnL L) = L := by
  unfold turnL
  rw [List.map_map]
  conv => rhs; rw [← List.map_id L]
  rfl
theorem fin_turn_ok {n : Nat} {L : List T3} (hL : okL n L) (h : (fin n L).last = -1) : (fin n (turnL L)).last = -1 :=
  fin_ok (okL_turn hL) (sols_turn (fin_sol hL h) 0)
theorem fin_turn_iff {n : Nat} {L : List T3} (hL : okL n L) : (fin n (turnL L)).last = -1 ↔ (fin n L).last = -1 := by
  refine ⟨fun h => ?_, fin_turn_ok hL⟩
  have := fin_turn_ok (okL_turn hL) h
  rwa [turn_turn] at this

/-! The greatest numbers. -/
def topOk (most : Int) : Bool := decide (0 ≤ most ∧ most ≤ 1099511627776)
def topL (n : Nat) (L : List T3) (most : Int) : List Int := (fin n (turnL L)).x.map fun z => most - z
def topE (n : Int) (L : List T3) (most : Int) : Int := if chkN n L = 0 then (if topOk most then (if (fin n.toNat L).last = -1 then (if (topL n.toNat L most).all (fun v => decide (0 ≤ v)) then 0 else 90) else 90) else 2) else chkN n L
def topR (n : Int) (L : List T3) (most : Int) : List Int := if topE n L most = 0 then topL n.toNat L most else []
theorem more_round {L : List T3} : ∀ (f : Nat) (s : St), (roundsB L (f + 1) s).last = -1 → roundsB L (f + 2) s = roundsB L (f + 1) s := by
  intro f
  induction f with
  | zero =>
    intro s h
    have h1 : (roundB L s).last = -1 := by
      unfold roundsB at h
      split at h
      · assumption
      · exact h
    simp only [roundsB, h1, if_true]
  | succ f ih =>
    intro s h
    by_cases h1 : (roundB L s).last = -1
    · simp only [roundsB, h1, if_true]
    · have e1 : roundsB L (f + 1 + 1) s = roundsB L (f + 1) (roundB L s) := by
        rw [roundsB, if_neg h1]
      have e2 : roundsB L (f + 1 + 2) s = roundsB L (f + 2) (roundB L s) := by
        rw [roundsB, if_neg h1]
      rw [e1, e2]
      rw [e1] at h
      exact ih _ h
theorem fin_more {n : Nat} {L : List T3} (hL : okL n L) (h : (fin n L).last = -1) : (roundsB L (n + 1) (start n)).x = (fin n L).x ∧ (roundsB L (n + 1) (start n)).last = -1 := by
  cases n with
  | zero =>
    have h0 : L.length = 0 := by
      rcases Nat.eq_zero_or_pos L.length with h | h
      · exact h
      · have := hL 0 h
        unfold okB at this
        omega
    have e : L = [] := List.eq_nil_of_length_eq_zero h0
    subst e
    exact ⟨rfl, rfl⟩
  | succ n =>
    have := more_round n (start (n + 1)) h
    unfold fin at h ⊢
    rw [this]
    exact ⟨rfl, h⟩
end Go.Proofs.Ythannibclhidcaa
