/- Layer 7: says, checks and Says of both sides. (Printed by wrap/gen_c.py.) -/
import Derived.Test.YtnkojoajcdhngaaDoorWrB
import Derived.Test.YtnkojoajcdhngaaDoorMem
namespace Go.Proofs.YtnkojoajcdhngaaDoor
set_option linter.unusedVariables false
set_option linter.unusedSimpArgs false
set_option maxRecDepth 100000
open Go.RowKit

structure Wr where
  k : Int
  m : Int
  n : Int
  s : ByteArray
def wrs : List Wr → List Value
  | [] => []
  | c :: l => .int .u8 c.k :: .int .u16 c.m :: .int .i64 c.n :: .string c.s :: wrs l
theorem wrs_len (l : List Wr) : (wrs l).length = l.length * 4 := by
  induction l with
  | nil => rfl
  | cons r l ih => simp [wrs, ih]; omega
theorem wrs_at (l : List Wr) (k : Nat) (h : k < l.length) : (wrs l)[k * 4]? = some (.int .u8 l[k].k) ∧ (wrs l)[k * 4 + 1]? = some (.int .u16 l[k].m) ∧ (wrs l)[k * 4 + 2]? = some (.int .i64 l[k].n) ∧ (wrs l)[k * 4 + 3]? = some (.string l[k].s) := by
  induction l generalizing k with
  | nil => simp at h
  | cons r l ih =>
    cases k with
    | zero => simp [wrs]
    | succ k =>
      have := ih k (by simpa using h)
      have e : (k + 1) * 4 = k * 4 + 4 := by omega
      rw [e]
      simpa [wrs] using this
theorem At.wr {B : Nat} {w : World} {A : Option Addr} {l : List Wr} (h : At B w A (wrs l)) {k : Nat} (hk : k < l.length) : ∃ g o, A = some ⟨g, o, none⟩ ∧ g < B ∧ w.cell? ⟨g, o + k * 4, none⟩ = some (.int .u8 l[k].k) ∧ w.cell? ⟨g, o + k * 4 + 1, none⟩ = some (.int .u16 l[k].m) ∧ w.cell? ⟨g, o + k * 4 + 2, none⟩ = some (.int .i64 l[k].n) ∧ w.cell? ⟨g, o + k * 4 + 3, none⟩ = some (.string l[k].s) := by
  obtain ⟨g, o, hA, hg, hc⟩ := h (by rw [wrs_len]; omega)
  obtain ⟨h0, h1, h2, h3⟩ := wrs_at l k hk
  exact ⟨g, o, hA, hg, hc _ _ h0, by rw [Nat.add_assoc]; exact hc _ _ h1, by rw [Nat.add_assoc]; exact hc _ _ h2, by rw [Nat.add_assoc]; exact hc _ _ h3⟩
def Wr.ok (t : Wr) : Prop := (0 ≤ t.k ∧ t.k ≤ 255) ∧ (0 ≤ t.m ∧ t.m ≤ 65535) ∧ t.s.size ≤ 9223372036854775807
def okW (t : Wr) : Bool := okWr t.k t.m t.n t.s
theorem chk_of {t : Wr} {v : Bool} (h : okW t = v) : chkW t.k t.m t.n t.s = if v then 0 else 70 := by subst h; rfl
def allW (L : List Wr) : Bool := L.all okW
def chkL (L : List Wr) : Int := if 16 < L.length then 4 else if allW L then 0 else 70
theorem allW_take (L : List Wr) (k : Nat) (h : k < L.length) : allW (L.take (k + 1)) = (allW (L.take k) && okW L[k]) := by
  rw [List.take_succ_eq_append_getElem h]
  simp only [allW, List.all_append, List.all_cons, List.all_nil, Bool.and_true]
theorem allW_no {L : List Wr} {k : Nat} (h : k < L.length) (hm : okW L[k] = false) : allW L = false := by
  rw [Bool.eq_false_iff]
  intro ha
  have := (List.all_eq_true.1 ha) L[k] (List.getElem_mem h)
  rw [hm] at this
  cases this
def saysW (c : Int) (t : Wr) : Int :=
  if t.k = 1 then c - andI c t.m else if t.k = 2 then andI c t.m else if t.k = 5 then orI c 4 else if t.k = 6 then orI c 16 else if t.k = 7 then 0 else c
theorem saysW_bd {c : Int} (t : Wr) (h : 0 ≤ c ∧ c ≤ 65535) : 0 ≤ saysW c t ∧ saysW c t ≤ 65535 := by
  have h1 := andI_bd (m := t.m) h
  have h2 := orI_bd c 4
  have h3 := orI_bd c 16
  unfold saysW
  split
  · omega
  · split
    · omega
    · split
      · omega
      · split
        · omega
        · split <;> omega

end Go.Proofs.YtnkojoajcdhngaaDoor
