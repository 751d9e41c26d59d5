/- Layer 10: sharing out, in plain Lean: who takes part is a list of numbers. -/
import Derived.Test.YthannibclhidcaaFlexC
namespace Go.Proofs.Ythannibclhidcaa
set_option linter.unusedVariables false
set_option linter.unusedSimpArgs false
open Go.RowKit

def tk (L : List T3) (i : Nat) : T3 := L.getD i ⟨0, 0, 0⟩
theorem tk_at {L : List T3} {i : Nat} (h : i < L.length) : tk L i = L[i] := by simp [tk, List.getD, h]
def sumN (f : Nat → Int) : List Nat → Int
  | [] => 0
  | i :: P => f i + sumN f P
theorem sumN_append (f : Nat → Int) (P Q : List Nat) : sumN f (P ++ Q) = sumN f P + sumN f Q := by
  induction P with
  | nil => simp [sumN]
  | cons i P ih => simp only [List.cons_append, sumN, ih]; omega
theorem sumN_take (f : Nat → Int) (P : List Nat) (k : Nat) (h : k < P.length) : sumN f (P.take (k + 1)) = sumN f (P.take k) + f P[k] := by
  rw [List.take_succ_eq_append_getElem h, sumN_append]
  simp [sumN]
theorem sumN_bd {f : Nat → Int} {c d : Int} {P : List Nat} (h : ∀ i ∈ P, c ≤ f i ∧ f i ≤ d) : P.length * c ≤ sumN f P ∧ sumN f P ≤ P.length * d := by
  induction P with
  | nil => simp [sumN]
  | cons i P ih =>
    have h1 := ih fun i hi => h i (by simp [hi])
    have h2 := h i (by simp)
    simp only [sumN, List.length_cons]
    have e1 : ((P.length + 1 : Nat) : Int) * c = P.length * c + c := by rw [Int.natCast_succ, Int.add_mul]; omega
    have e2 : ((P.length + 1 : Nat) : Int) * d = P.length * d + d := by rw [Int.natCast_succ, Int.add_mul]; omega
    omega
theorem sumN_le {f g : Nat → Int} {P : List Nat} (h : ∀ i ∈ P, f i ≤ g i) : sumN f P ≤ sumN g P := by
  induction P with
  | nil => simp [sumN]
  | cons i P ih =>
    have h1 := ih fun i hi => h i (by simp [hi])
    have h2 := h i (by simp)
    simp only [sumN]
    omega
theorem sumN_mul (f : Nat → Int) (c : Int) (P : List Nat) : sumN (fun i => c * f i) P = c * sumN f P := by
  induction P with
  | nil => simp [sumN]
  | cons i P ih => simp only [sumN, ih, Int.mul_add]
theorem sumN_congr {f g : Nat → Int} {P : List Nat} (h : ∀ i ∈ P, f i = g i) : sumN f P = sumN g P := by
  induction P with
  | nil => rfl
  | cons i P ih =>
    simp only [sumN]
    rw [ih fun i hi => h i (by simp [hi]), h i (by simp)]
theorem sumN_filter (f : Nat → Int) (p : Nat → Bool) (P : List Nat) : sumN f (P.filter p) = sumN (fun i => if p i then f i else 0) P := by
  induction P with
  | nil => rfl
  | cons i P ih =>
    simp only [List.filter_cons]
    split
    · rename_i h
      simp [sumN, ih, h]
    · rename_i h
      simp [sumN, ih, h]

def gP (L : List T3) (P : List Nat) : Int := sumN (fun i => (tk L i).r) P
def fullP (L : List T3) (left g : Int) (i : Nat) : Bool := !((tk L i).q == 0) && decide (g * ((tk L i).q - (tk L i).p) ≤ left * (tk L i).r)
def fillO (L : List T3) (left g : Int) (O : List Int) (i : Nat) : List Int := if fullP L left g i then O.set i (tk L i).q else O
def usedP (L : List T3) (left g : Int) (P : List Nat) : Int := sumN (fun i => if fullP L left g i then (tk L i).q - (tk L i).p else 0) P
def restP (L : List T3) (left g : Int) (P : List Nat) : List Nat := P.filter fun i => !fullP L left g i
def growO (L : List T3) (left g : Int) (O : List Int) (i : Nat) : List Int := O.set i (O.getD i 0 + left * (tk L i).r / g)
def spentP (L : List T3) (left g : Int) (P : List Nat) : Int := sumN (fun i => left * (tk L i).r / g) P
def bumpO (O : List Int) (i : Nat) : List Int := O.set i (O.getD i 0 + 1)
def doneP (L : List T3) (left : Int) (P : List Nat) (O : List Int) : List Int := (P.take (left - spentP L left (gP L P) P).toNat).foldl bumpO (P.foldl (growO L left (gP L P)) O)
def roundsP (L : List T3) : Nat → Int → List Nat → List Int → List Int
  | 0, _, _, O => O
  | f + 1, left, P, O => if P = [] then O else if (restP L left (gP L P) P).length = P.length then doneP L left P O else
      roundsP L f (left - usedP L left (gP L P) P) (restP L left (gP L P) P) (P.foldl (fillO L left (gP L P)) O)
def startP (L : List T3) : List Nat := (List.range L.length).filter fun i => decide (0 < (tk L i).r)
def shareP (L : List T3) (room : Int) : List Int := if room - sumP L ≤ 0 then L.map (·.p) else roundsP L (L.length + 1) (room - sumP L) (startP L) (L.map (·.p))

theorem foldl_take {α β : Type} (f : β → α → β) (b : β) (l : List α) (k : Nat) (h : k < l.length) : (l.take (k + 1)).foldl f b = f ((l.take k).foldl f b) l[k] := by
  rw [List.take_succ_eq_append_getElem h, List.foldl_append]
  rfl
theorem rest_take (L : List T3) (left g : Int) (P : List Nat) (k : Nat) (h : k < P.length) : restP L left g (P.take (k + 1)) = restP L left g (P.take k) ++ if fullP L left g P[k] then [] else [P[k]] := by
  rw [List.take_succ_eq_append_getElem h]
  unfold restP
  rw [List.filter_append]
  congr 1
  cases hf : fullP L left g P[k] <;> simp [hf]
theorem rest_le (L : List T3) (left g : Int) (P : List Nat) : (restP L left g P).length ≤ P.length := List.length_filter_le _ _
theorem fold_len {α : Type} (f : List Int → α → List Int) (hf : ∀ O i, (f O i).length = O.length) (P : List α) : ∀ O, (P.foldl f O).length = O.length := by
  induction P with
  | nil => exact fun _ => rfl
  | cons i P ih => exact fun O => (ih _).trans (hf O i)
theorem fill_len (L : List T3) (left g : Int) (O : List Int) (i : Nat) : (fillO L left g O i).length = O.length := by
  unfold fillO
  split <;> simp
theorem grow_len (L : List T3) (left g : Int) (O : List Int) (i : Nat) : (growO L left g O i).length = O.length := by simp [growO]
theorem bump_len (O : List Int) (i : Nat) : (bumpO O i).length = O.length := by simp [bumpO]

/-- What holds at each round. -/
structure ShInv (L : List T3) (left : Int) (P : List Nat) (O : List Int) : Prop where
  may : ∀ t ∈ L, mayT t = true
  left : 0 ≤ left ∧ left ≤ 32768
  idx : ∀ i ∈ P, i < L.length ∧ 0 < (tk L i).r
  nodup : P.Nodup
  len : O.length = L.length
  out : ∀ o ∈ O, 0 ≤ o ∧ o ≤ 16384
theorem tk_bd {L : List T3} (h : ∀ t ∈ L, mayT t = true) (i : Nat) : (0 ≤ (tk L i).p ∧ (tk L i).p ≤ 16384) ∧ ((tk L i).q = 0 ∨ (tk L i).p ≤ (tk L i).q ∧ (tk L i).q ≤ 16384) ∧ (0 ≤ (tk L i).r ∧ (tk L i).r ≤ 16384) := by
  by_cases hi : i < L.length
  · rw [tk_at hi]
    exact (mayT_iff _).1 (h _ (List.getElem_mem hi))
  · simp [tk, List.getD, hi]
theorem nodup_len {P : List Nat} {n : Nat} (hn : P.Nodup) (h : ∀ i ∈ P, i < n) : P.length ≤ n := by
  have h1 : P ⊆ List.range n := fun i hi => List.mem_range.2 (h i hi)
  have := hn.length_le_of_subset h1
  simpa using this
theorem ShInv.plen {L : List T3} {left : Int} {P : List Nat} {O : List Int} (h : ShInv L left P O) : P.length ≤ L.length := nodup_len h.nodup fun i hi => (h.idx i hi).1
theorem g_pos {L : List T3} {P : List Nat} (h : ∀ i ∈ P, i < L.length ∧ 0 < (tk L i).r) : P.length ≤ gP L P := by
  have := (sumN_bd (f := fun i => (tk L i).r) (c := 1) (d := sumN (fun i => (tk L i).r) P) (P := P) (fun i hi => ⟨by have := (h i hi).2; omega, by
    have : ∀ Q : List Nat, (∀ j ∈ Q, 0 < (tk L j).r) → i ∈ Q → (tk L i).r ≤ sumN (fun i => (tk L i).r) Q := by
      intro Q
      induction Q with
      | nil => intro _ hi; cases hi
      | cons j Q ih =>
        intro hq hi
        simp only [sumN]
        have hrest : 0 ≤ sumN (fun i => (tk L i).r) Q := by
          have := (sumN_bd (f := fun i => (tk L i).r) (c := 0) (d := 0 + sumN (fun i => (tk L i).r) Q) (P := []) (fun _ h => by cases h)).1
          clear this
          clear ih hi
          induction Q with
          | nil => simp [sumN]
          | cons m Q ih2 =>
            have h1 := hq m (by simp)
            have h2 := ih2 fun x hx => hq x (by
              rcases List.mem_cons.1 hx with rfl | hx
              · simp
              · simp [hx])
            simp only [sumN]
            omega
        rcases List.mem_cons.1 hi with rfl | hi
        · omega
        · have h1 := ih (fun x hx => hq x (by simp [hx])) hi
          have h2 := hq j (by simp)
          omega
    exact this P (fun j hj => (h j hj).2) hi⟩)).1
  unfold gP
  omega
end Go.Proofs.Ythannibclhidcaa
