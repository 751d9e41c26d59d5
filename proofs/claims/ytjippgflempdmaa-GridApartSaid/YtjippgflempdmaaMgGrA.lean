/- Layer 11: where things lie, in plain Lean. -/
import Derived.Test.YtjippgflempdmaaMgRow
import Derived.Test.YtjippgflempdmaaMgLeP
import Derived.Maps.AppendAt
import Derived.Deep.CutRange
namespace Go.Proofs.Ytjippgflempdmaa
set_option linter.unusedVariables false
set_option linter.unusedSimpArgs false
set_option maxRecDepth 100000
open Go.RowKit

def wideP (n : Int) (S : List Int) (i : Nat) : Int := min (max (S.getD i 0) 1) n
/-- After i things: the next free column, the row. -/
def nxtP (n : Int) (S : List Int) : Nat → Int × Nat
  | 0 => (0, 0)
  | i + 1 => if n < (nxtP n S i).1 + wideP n S i then (wideP n S i, (nxtP n S i).2 + 1) else ((nxtP n S i).1 + wideP n S i, (nxtP n S i).2)
def brk (n : Int) (S : List Int) (i : Nat) : Prop := n < (nxtP n S i).1 + wideP n S i
instance (n : Int) (S : List Int) (i : Nat) : Decidable (brk n S i) := by unfold brk; infer_instance
def colP (n : Int) (S : List Int) (i : Nat) : Int := if brk n S i then 0 else (nxtP n S i).1
def rowP (n : Int) (S : List Int) (i : Nat) : Nat := if brk n S i then (nxtP n S i).2 + 1 else (nxtP n S i).2
theorem nxt_succ (n : Int) (S : List Int) (i : Nat) : nxtP n S (i + 1) = (colP n S i + wideP n S i, rowP n S i) := by
  unfold colP rowP
  show (if n < (nxtP n S i).1 + wideP n S i then _ else _) = _
  by_cases h : n < (nxtP n S i).1 + wideP n S i
  · have h' : brk n S i := h
    rw [if_pos h, if_pos h', if_pos h', Int.zero_add]
  · have h' : ¬ brk n S i := h
    rw [if_neg h, if_neg h', if_neg h']
theorem wide_bd {n : Int} (hn : 1 ≤ n) (S : List Int) (i : Nat) : 1 ≤ wideP n S i ∧ wideP n S i ≤ n := by
  unfold wideP
  omega
theorem nxt_bd {n : Int} (hn : 1 ≤ n) (S : List Int) : ∀ i, 0 ≤ (nxtP n S i).1 ∧ (nxtP n S i).1 ≤ n := by
  intro i
  induction i with
  | zero => simp [nxtP]; omega
  | succ i ih =>
    have h := wide_bd hn S i
    rw [nxt_succ]
    unfold colP
    by_cases hb : brk n S i
    · rw [if_pos hb]
      simp only
      omega
    · rw [if_neg hb]
      unfold brk at hb
      simp only
      omega
theorem col_bd {n : Int} (hn : 1 ≤ n) (S : List Int) (i : Nat) : 0 ≤ colP n S i ∧ colP n S i + wideP n S i ≤ n := by
  have h := wide_bd hn S i
  have h2 := nxt_bd hn S i
  unfold colP
  by_cases hb : brk n S i
  · rw [if_pos hb]
    omega
  · rw [if_neg hb]
    unfold brk at hb
    omega
theorem first_at {n : Int} (hn : 1 ≤ n) (S : List Int) : ¬ brk n S 0 := by
  have h := wide_bd hn S 0
  unfold brk nxtP
  simp only
  omega
theorem row_zero {n : Int} (hn : 1 ≤ n) (S : List Int) : rowP n S 0 = 0 := by
  unfold rowP
  rw [if_neg (first_at hn S)]
  rfl
theorem row_step (n : Int) (S : List Int) (i : Nat) : rowP n S i ≤ rowP n S (i + 1) ∧ rowP n S (i + 1) ≤ rowP n S i + 1 := by
  have h : (nxtP n S (i + 1)).2 = rowP n S i := by rw [nxt_succ]
  have e : rowP n S (i + 1) = if brk n S (i + 1) then (nxtP n S (i + 1)).2 + 1 else (nxtP n S (i + 1)).2 := rfl
  rw [e, h]
  by_cases hb : brk n S (i + 1)
  · rw [if_pos hb]
    omega
  · rw [if_neg hb]
    omega
theorem row_le {n : Int} (hn : 1 ≤ n) (S : List Int) (i : Nat) : rowP n S i ≤ i := by
  induction i with
  | zero => rw [row_zero hn]; exact Nat.le_refl _
  | succ i ih =>
    have := row_step n S i
    omega
def thing (n : Int) (S : List Int) (i : Nat) : T3 := ⟨colP n S i, wideP n S i, (i : Int)⟩
/-- Where the rows begin, after i things. -/
def stB (n : Int) (S : List Int) : Nat → List Nat
  | 0 => []
  | i + 1 => if i = 0 ∨ brk n S i then stB n S i ++ [i] else stB n S i
/-- Where row y ends. -/
def endB (B : List Nat) (i y : Nat) : Nat := if y + 1 < B.length then B.getD (y + 1) 0 else i
def seg (n : Int) (S : List Int) (a b : Nat) : List T3 := (List.range (b - a)).map fun j => thing n S (a + j)
theorem seg_len (n : Int) (S : List Int) (a b : Nat) : (seg n S a b).length = b - a := by simp [seg]
theorem seg_succ (n : Int) (S : List Int) {a b : Nat} (h : a ≤ b) : seg n S a (b + 1) = seg n S a b ++ [thing n S b] := by
  unfold seg
  rw [show b + 1 - a = (b - a) + 1 by omega, List.range_succ, List.map_append]
  simp only [List.map_cons, List.map_nil]
  rw [show a + (b - a) = b by omega]
theorem seg_at {n : Int} {S : List Int} {a b j : Nat} (h : j < b - a) : (seg n S a b)[j]? = some (thing n S (a + j)) := by
  simp [seg, h]
structure StB (n : Int) (S : List Int) (i : Nat) (B : List Nat) : Prop where
  none : i = 0 → B = []
  len : 0 < i → B.length = rowP n S (i - 1) + 1
  zero : 0 < i → B.getD 0 0 = 0
  row : ∀ y, y < B.length → B.getD y 0 < endB B i y ∧ endB B i y ≤ i ∧ ∀ t, B.getD y 0 ≤ t → t < endB B i y → rowP n S t = y
theorem getD_app {l : List Nat} {a y : Nat} (h : y < l.length) : (l ++ [a]).getD y 0 = l.getD y 0 := by
  simp only [List.getD, List.getElem?_append_left h]
theorem getD_last {l : List Nat} {a : Nat} : (l ++ [a]).getD l.length 0 = a := by
  simp only [List.getD, List.getElem?_append_right (Nat.le_refl _)]
  simp
theorem stB_ok {n : Int} (hn : 1 ≤ n) (S : List Int) : ∀ i, StB n S i (stB n S i) := by
  intro i
  induction i with
  | zero => exact ⟨fun _ => rfl, fun h => by omega, fun h => by omega, fun y hy => by simp [stB] at hy⟩
  | succ i ih =>
    have hrow : rowP n S i = if brk n S i then (nxtP n S i).2 + 1 else (nxtP n S i).2 := rfl
    have hprev : 0 < i → (nxtP n S i).2 = rowP n S (i - 1) := fun h => by
      obtain ⟨k, rfl⟩ : ∃ k, i = k + 1 := ⟨i - 1, by omega⟩
      rw [nxt_succ]
      rfl
    unfold stB
    by_cases h : i = 0 ∨ brk n S i
    · rw [if_pos h]
      have hbl : (stB n S i).length = rowP n S i := by
        rcases Nat.eq_zero_or_pos i with h0 | h0
        · subst h0
          rw [ih.none rfl, hrow, if_neg (first_at hn S)]
          rfl
        · have hb : brk n S i := h.resolve_left (by omega)
          rw [ih.len h0, hrow, if_pos hb, hprev h0]
      refine ⟨fun h => by omega, fun _ => by simp [hbl], fun _ => ?_, fun y hy => ?_⟩
      · rcases Nat.eq_zero_or_pos i with h0 | h0
        · rw [ih.none h0]
          simp [h0]
        · have hl := ih.len h0
          rw [getD_app (by omega)]
          exact ih.zero h0
      · simp only [List.length_append, List.length_cons, List.length_nil] at hy
        by_cases hy2 : y < (stB n S i).length
        · obtain ⟨r1, r2, r3⟩ := ih.row y hy2
          rw [getD_app hy2]
          have he : endB (stB n S i ++ [i]) (i + 1) y = endB (stB n S i) i y := by
            unfold endB
            simp only [List.length_append, List.length_cons, List.length_nil]
            rw [if_pos (by omega)]
            by_cases hy3 : y + 1 < (stB n S i).length
            · rw [if_pos hy3, getD_app hy3]
            · rw [if_neg hy3, show y + 1 = (stB n S i).length by omega, getD_last]
          rw [he]
          exact ⟨r1, by omega, r3⟩
        · have hye : y = (stB n S i).length := by omega
          subst hye
          rw [getD_last]
          have he : endB (stB n S i ++ [i]) (i + 1) (stB n S i).length = i + 1 := by
            unfold endB
            simp only [List.length_append, List.length_cons, List.length_nil]
            rw [if_neg (by omega)]
          rw [he]
          refine ⟨by omega, Nat.le_refl _, fun t h1 h2 => ?_⟩
          rw [show t = i by omega, hbl]
    · rw [if_neg h]
      have h0 : 0 < i := by omega
      have hb : ¬ brk n S i := fun hb => h (.inr hb)
      have hr : rowP n S i = rowP n S (i - 1) := by rw [hrow, if_neg hb, hprev h0]
      have hl := ih.len h0
      refine ⟨fun h => by omega, fun _ => by rw [Nat.add_sub_cancel, hr]; exact hl, fun _ => ih.zero h0, fun y hy => ?_⟩
      obtain ⟨r1, r2, r3⟩ := ih.row y hy
      by_cases hy3 : y + 1 < (stB n S i).length
      · have he : endB (stB n S i) (i + 1) y = endB (stB n S i) i y := by
          unfold endB
          rw [if_pos hy3, if_pos hy3]
        rw [he]
        exact ⟨r1, by omega, r3⟩
      · have he : endB (stB n S i) (i + 1) y = i + 1 := by
          unfold endB
          rw [if_neg hy3]
        have he2 : endB (stB n S i) i y = i := by
          unfold endB
          rw [if_neg hy3]
        rw [he]
        rw [he2] at r1 r3
        refine ⟨by omega, Nat.le_refl _, fun t h1 h2 => ?_⟩
        by_cases e : t = i
        · rw [e, hr]
          omega
        · exact r3 t h1 (by omega)
end Go.Proofs.Ytjippgflempdmaa

/- Layer 11: least widths, in plain Lean. -/
namespace Go.Proofs.Ytjippgflempdmaa
set_option linter.unusedVariables false
set_option linter.unusedSimpArgs false
set_option maxRecDepth 100000
open Go.RowKit

def bnd1 (m : Nat) : List T3 := (List.range m).map fun (i : Nat) => ⟨(i : Int), (i : Int) + 1, 0⟩
def farP (n : Int) (S D : List Int) (gap : Int) (i : Nat) : Int := D.getD i 0 - (wideP n S i - 1) * gap
def bndP (n : Int) (S D : List Int) (gap : Int) (i : Nat) : T3 := ⟨colP n S i, colP n S i + wideP n S i, farP n S D gap i⟩
def bnd2 (n : Int) (S D : List Int) (gap : Int) (N : Nat) : List T3 := (List.range N).map (bndP n S D gap)
def bndL (m : Nat) (S D : List Int) (gap : Int) (N : Nat) : List T3 := bnd1 m ++ bnd2 m S D gap N
def edgeL (m : Nat) (S D : List Int) (gap : Int) (N : Nat) : List Int := solveR ((m : Int) + 1) (bndL m S D gap N)
def widL (m : Nat) (S D : List Int) (gap : Int) (N : Nat) : List Int := (List.range m).map fun i => (edgeL m S D gap N).getD (i + 1) 0 - (edgeL m S D gap N).getD i 0
theorem bnd1_len (m : Nat) : (bnd1 m).length = m := by simp [bnd1]
theorem bnd2_len (n : Int) (S D : List Int) (gap : Int) (N : Nat) : (bnd2 n S D gap N).length = N := by simp [bnd2]
theorem bndL_len (m : Nat) (S D : List Int) (gap : Int) (N : Nat) : (bndL m S D gap N).length = m + N := by simp [bndL, bnd1_len, bnd2_len]
theorem widL_len (m : Nat) (S D : List Int) (gap : Int) (N : Nat) : (widL m S D gap N).length = m := by simp [widL]
theorem bnd1_succ (m : Nat) : bnd1 (m + 1) = bnd1 m ++ [⟨(m : Int), (m : Int) + 1, 0⟩] := by simp [bnd1, List.range_succ]
theorem bnd2_succ (n : Int) (S D : List Int) (gap : Int) (N : Nat) : bnd2 n S D gap (N + 1) = bnd2 n S D gap N ++ [bndP n S D gap N] := by simp [bnd2, List.range_succ]
theorem bk_one {m : Nat} {S D : List Int} {gap : Int} {N j : Nat} (h : j < m) : bk (bndL m S D gap N) j = ⟨(j : Int), (j : Int) + 1, 0⟩ := by
  have : (bnd1 m)[j]? = some ⟨(j : Int), (j : Int) + 1, 0⟩ := by simp [bnd1, h]
  unfold bk bndL
  rw [List.getD, List.getElem?_append_left (by rw [bnd1_len]; exact h), this]
  rfl
theorem bk_two {m : Nat} {S D : List Int} {gap : Int} {N j : Nat} (h : j < N) : bk (bndL m S D gap N) (m + j) = bndP m S D gap j := by
  have : (bnd2 m S D gap N)[j]? = some (bndP m S D gap j) := by simp [bnd2, h]
  unfold bk bndL
  rw [List.getD, List.getElem?_append_right (by rw [bnd1_len]; omega), bnd1_len, Nat.add_sub_cancel_left, this]
  rfl
theorem far_bd {n : Int} (hn : 1 ≤ n) (hn2 : n ≤ 64) {S D : List Int} {gap : Int} (hg : 0 ≤ gap ∧ gap ≤ 16384) {i : Nat} (hd : 0 ≤ D.getD i 0 ∧ D.getD i 0 ≤ 16384) : -1048576 ≤ farP n S D gap i ∧ farP n S D gap i ≤ 16384 ∧ 0 ≤ (wideP n S i - 1) * gap ∧ (wideP n S i - 1) * gap ≤ 1032192 := by
  have h := wide_bd hn S i
  have h1 : 0 ≤ (wideP n S i - 1) * gap := Int.mul_nonneg (by omega) hg.1
  have h2 : (wideP n S i - 1) * gap ≤ 63 * 16384 := Int.le_trans (Int.mul_le_mul_of_nonneg_right (show wideP n S i - 1 ≤ 63 by omega) hg.1) (Int.mul_le_mul_of_nonneg_left hg.2 (by omega))
  unfold farP
  omega
/-- What is known of the numbers that bound the least widths. -/
structure WidOk (m : Nat) (S D : List Int) (gap : Int) (N : Nat) : Prop where
  m1 : 1 ≤ m
  m2 : m ≤ 64
  n1 : N ≤ 1024
  g : 0 ≤ gap ∧ gap ≤ 16384
  d : ∀ i, i < N → 0 ≤ D.getD i 0 ∧ D.getD i 0 ≤ 16384
theorem bnd_sum (k : Int) (a b : Int) (h : b ≤ 16384) (hk : 1 ≤ k) : 16384 * a + b ≤ 16384 * (a + k) := by omega
structure EdgeOk (m : Nat) (S D : List Int) (gap : Int) (N : Nat) : Prop where
  e : solveE ((m : Int) + 1) (bndL m S D gap N) = 0
  b : Below9 (m + 1) (bndL m S D gap N) (edgeL m S D gap N)
  le : ∀ v, v < m + 1 → (edgeL m S D gap N).getD v 0 ≤ 16384 * v
theorem edge_ok {m : Nat} {S D : List Int} {gap : Int} {N : Nat} (h : WidOk m S D gap N) : EdgeOk m S D gap N := by
  have hm1 := h.m1
  have hm2 := h.m2
  have hn1 := h.n1
  have hlen := bndL_len m S D gap N
  have hok : ∀ t ∈ bndL m S D gap N, okBb ((m : Int) + 1) t = true := by
    intro t ht
    unfold bndL at ht
    rcases List.mem_append.1 ht with ht | ht
    · simp only [bnd1, List.mem_map, List.mem_range] at ht
      obtain ⟨i, hi, rfl⟩ := ht
      simp only [okBb, decide_eq_true_eq]
      omega
    · simp only [bnd2, List.mem_map, List.mem_range] at ht
      obtain ⟨i, hi, rfl⟩ := ht
      have h1 := far_bd (n := m) (by omega) (by omega) (S := S) h.g (h.d i hi)
      have h2 := col_bd (n := m) (by omega) S i
      have h3 := wide_bd (n := m) (by omega) S i
      refine decide_eq_true ?_
      unfold bndP
      dsimp only
      refine ⟨⟨h2.1, ?_⟩, ⟨?_, ?_⟩, h1.1, ?_⟩
      · omega
      · omega
      · omega
      · omega
  have hchk : chkN ((m : Int) + 1) (bndL m S D gap N) = 0 := by
    unfold chkN
    rw [if_neg (by omega), if_neg (by rw [hlen]; omega), if_pos (show allB _ _ = true from List.all_eq_true.2 hok)]
  have hcast : (m : Int) + 1 = ((m + 1 : Nat) : Int) := by omega
  have hsol : sols (m + 1) (bndL m S D gap N) (fun v => 16384 * (v : Int)) := by
    intro j hj
    rw [hlen] at hj
    show 16384 * ((pn _ j : Nat) : Int) + (bk _ j).r ≤ 16384 * ((qn _ j : Nat) : Int)
    unfold pn qn
    by_cases hjm : j < m
    · rw [bk_one hjm]
      simp only
      omega
    · obtain ⟨i, rfl⟩ : ∃ i, j = m + i := ⟨j - m, by omega⟩
      rw [bk_two (by omega)]
      have h1 := far_bd (n := m) (by omega) (by omega) (S := S) h.g (h.d i (by omega))
      have h2 := col_bd (n := m) (by omega) S i
      have h3 := wide_bd (n := m) (by omega) S i
      simp only [bndP]
      omega
  have he : solveE ((m : Int) + 1) (bndL m S D gap N) = 0 := by
    rw [hcast] at hchk ⊢
    exact solve_sol hchk hsol
  obtain ⟨m', hm', _, _, hL, hb⟩ := solve_below he
  have : m' = m + 1 := by omega
  subst this
  refine ⟨he, hb, fun v hv => ?_⟩
  exact hb.le _ hsol (fun v _ => by omega) v hv
theorem edge_len {m : Nat} {S D : List Int} {gap : Int} {N : Nat} (h : WidOk m S D gap N) : (edgeL m S D gap N).length = m + 1 := (edge_ok h).b.len
theorem edge_bd {m : Nat} {S D : List Int} {gap : Int} {N : Nat} (h : WidOk m S D gap N) {v : Nat} (hv : v < m + 1) : 0 ≤ (edgeL m S D gap N).getD v 0 ∧ (edgeL m S D gap N).getD v 0 ≤ 1048576 := by
  have h1 := (edge_ok h).b.ge v hv
  have h2 := (edge_ok h).le v hv
  have h3 := h.m2
  omega
/-- Each width is not below 0; a thing's columns hold it. -/
theorem wid_ge {m : Nat} {S D : List Int} {gap : Int} {N : Nat} (h : WidOk m S D gap N) {i : Nat} (hi : i < m) : (edgeL m S D gap N).getD i 0 ≤ (edgeL m S D gap N).getD (i + 1) 0 := by
  have h1 := (edge_ok h).b.sol i (by rw [bndL_len]; omega)
  unfold pn qn at h1
  rw [bk_one hi] at h1
  simp only at h1
  rw [show ((i : Int)).toNat = i by omega, show ((i : Int) + 1).toNat = i + 1 by omega] at h1
  omega
theorem wid_holds {m : Nat} {S D : List Int} {gap : Int} {N : Nat} (h : WidOk m S D gap N) {i : Nat} (hi : i < N) : (edgeL m S D gap N).getD (colP m S i).toNat 0 + farP m S D gap i ≤ (edgeL m S D gap N).getD (colP m S i + wideP m S i).toNat 0 := by
  have h1 := (edge_ok h).b.sol (m + i) (by rw [bndL_len]; omega)
  unfold pn qn at h1
  rw [bk_two hi] at h1
  exact h1
end Go.Proofs.Ytjippgflempdmaa

/- Layer 11: rows of things in memory; the program's rows. -/
namespace Go.Proofs.Ytjippgflempdmaa
set_option linter.unusedVariables false
set_option linter.unusedSimpArgs false
set_option maxRecDepth 100000
open Go.RowKit
attribute [local go_sem] max_fold min_fold

theorem info_thing : (Try.prog.info? 63).map (fun i => (i.zero, i.size, i.bytes)) = some (some (.agg #[.int .i64 0, .int .i64 0, .int .i64 0]), 3, 24) := by kernel_rfl
theorem info_things : (Try.prog.info? 93).map (fun i => (i.zero, i.size, i.bytes)) = some (some (.slice none 0 0), 1, 24) := by kernel_rfl
theorem own_apart {w w' : World} {base : Nat} {e : TypeId} {size n : Nat} {v : Value} {xs : List Value} {row : Option Nat} (h : w.ownsRow base e size v n xs) (hg : w.grownBy w' row) (hne : ∀ k, v.ownBlock = some k → row ≠ some k) : w'.ownsRow base e size v n xs := by
  refine h.kept hg ?_
  cases hv : v.ownBlock with
  | none => exact .inl rfl
  | some k => exact .inr fun e => hne k hv e.symm
section
variable {ops : Array Oper} {rest : List Oper} {o : Oper} {a : Act} {Q : Exit → Act → World → Prop} {w : World}
theorem append_thing (hgd : o.guard = none) (s x : Operand) (ho : o.op = .call { callee := .builtin .append, args := #[s, x], argTypes := #[93, 93] }) (base : Nat) (v : Value) (l : List T3) (t : T3) (g : Nat)
    (hs : a.eval s = v) (hx : a.eval x = .slice (some ⟨g, 0, none⟩) 1 1) (hown : w.ownsRow base 63 3 v l.length (t3s l)) (h0 : w.cell? ⟨g, 0, none⟩ = some (.int .i64 t.p)) (h1 : w.cell? ⟨g, 1, none⟩ = some (.int .i64 t.q)) (h2 : w.cell? ⟨g, 2, none⟩ = some (.int .i64 t.r)) (hn : l.length ≤ 1000000) (hbase : base ≤ w.heap.size)
    (h : ∀ v' w', w'.ownsRow base 63 3 v' (l ++ [t]).length (t3s (l ++ [t])) → w.grownBy w' v.ownBlock → (v'.ownBlock = v.ownBlock ∨ v'.ownBlock = some w.heap.size) → wpList Try.prog ops Q rest (a.put o.dst v') w') : wpList Try.prog ops Q (o :: rest) a w := by
  obtain ⟨i0, hi, hz0, hz1, hz2⟩ := info_parts info_thing
  refine wpList_append_own_at w hgd s x 93 ho base 63 i0 _ 3 24 Try.underlying93 hi hz0 hz1 hz2 rfl (by decide) v l.length (t3s l) hs hown ⟨g, 0, none⟩ 1 1 (t3s [t]) hx rfl (fun j u hj => ?_) (t3s_one _) (by unfold maxLen; omega) (by omega) hbase (fun v' w' h4 h5 _ h6 => ?_)
  · match j, hj with
    | 0, hj => simp [t3s] at hj; subst hj; simpa [Addr.add] using h0
    | 1, hj => simp [t3s] at hj; subst hj; simpa [Addr.add] using h1
    | 2, hj => simp [t3s] at hj; subst hj; simpa [Addr.add] using h2
    | j + 3, hj => simp [t3s] at hj
  · exact h v' w' (by rw [t3s_append, List.length_append]; exact h4) h5 h6
theorem append_nilrow (hgd : o.guard = none) (s x : Operand) (ho : o.op = .call { callee := .builtin .append, args := #[s, x], argTypes := #[60, 60] }) (base : Nat) (v : Value) (n : Nat) (l : List Value) (g : Nat)
    (hs : a.eval s = v) (hx : a.eval x = .slice (some ⟨g, 0, none⟩) 1 1) (hown : w.ownsRow base 93 1 v n l) (h0 : w.cell? ⟨g, 0, none⟩ = some (.slice none 0 0)) (hn : n ≤ 1000000) (hbase : base ≤ w.heap.size)
    (h : ∀ v' w', w'.ownsRow base 93 1 v' (n + 1) (l ++ [.slice none 0 0]) → w.grownBy w' v.ownBlock → (v'.ownBlock = v.ownBlock ∨ v'.ownBlock = some w.heap.size) → wpList Try.prog ops Q rest (a.put o.dst v') w') : wpList Try.prog ops Q (o :: rest) a w := by
  obtain ⟨i0, hi, hz0, hz1, hz2⟩ := info_parts info_things
  refine wpList_append_own_at w hgd s x 60 ho base 93 i0 _ 1 24 Try.underlying60 hi hz0 hz1 hz2 rfl (by decide) v n l hs hown ⟨g, 0, none⟩ 1 1 [.slice none 0 0] hx rfl (fun j u hj => ?_) (fun v hv => ?_) (by unfold maxLen; omega) (by omega) hbase (fun v' w' h4 h5 _ h6 => h v' w' h4 h5 h6)
  · match j, hj with
    | 0, hj => simp at hj; subst hj; simpa [Addr.add] using h0
    | j + 1, hj => simp at hj
  · simp at hv
    subst hv
    rfl
end
/-- A row in memory: its slice, from which thing to which. -/
structure Rw where
  A : Option Addr
  c : Nat
  a : Nat
  b : Nat
def Rw.v (z : Rw) : Value := .slice z.A (z.b - z.a) z.c
structure RowsMem (n : Int) (S : List Int) (base : Nat) (outer : Value) (Z : List Rw) (wr : World) : Prop where
  own : wr.ownsRow base 93 1 outer Z.length (Z.map Rw.v)
  inner : ∀ z ∈ Z, wr.ownsRow base 63 3 z.v (z.b - z.a) (t3s (seg n S z.a z.b))
  ap1 : ∀ z ∈ Z, ∀ k, z.v.ownBlock = some k → outer.ownBlock ≠ some k
  ap2 : Z.Pairwise fun z z' => ∀ k, z.v.ownBlock = some k → z'.v.ownBlock ≠ some k
section
variable {n : Int} {S : List Int} {base : Nat} {outer : Value} {Z Zi : List Rw} {z : Rw} {w wr w' : World}
theorem RowsMem.start (n : Int) (S : List Int) (base : Nat) (w : World) : RowsMem n S base (.slice none 0 0) [] w :=
  ⟨World.ownsRow_nil _ _ _ _, fun z hz => by simp at hz, fun z hz => by simp at hz, List.Pairwise.nil⟩
theorem RowsMem.on (h : RowsMem n S base outer Z wr) (hb : Below wr.heap.size wr w') : RowsMem n S base outer Z w' :=
  ⟨own_below' h.own hb, fun z hz => own_below' (h.inner z hz) hb, h.ap1, h.ap2⟩
/-- A row more, empty. -/
theorem RowsMem.push {v' : Value} {o : Obj} (h : RowsMem n S base outer Z wr) (i s : Nat) (hs : wr.heap.size ≤ s) (hg : (wr.alloc o).grownBy w' outer.ownBlock) (ho : w'.ownsRow base 93 1 v' (Z.length + 1) (Z.map Rw.v ++ [.slice none 0 0])) (hl : v'.ownBlock = outer.ownBlock ∨ v'.ownBlock = some s) :
    RowsMem n S base v' (Z ++ [⟨none, 0, i, i⟩]) w' := by
  have hnil : (⟨none, 0, i, i⟩ : Rw).v = .slice none 0 0 := by simp [Rw.v]
  have hnb : ∀ k, (⟨none, 0, i, i⟩ : Rw).v.ownBlock ≠ some k := fun k h => by rw [hnil] at h; cases h
  refine ⟨?_, fun z hz => ?_, fun z hz k hk => ?_, ?_⟩
  · rw [List.length_append, List.map_append]
    simpa [hnil] using ho
  · rcases List.mem_append.1 hz with hz | hz
    · refine own_apart ((h.inner z hz).alloc o) hg fun k hk => h.ap1 z hz k hk
    · simp at hz
      subst hz
      rw [hnil]
      simp only [Nat.sub_self]
      have : seg n S i i = [] := by simp [seg]
      rw [this]
      exact World.ownsRow_nil _ _ _ _
  · rcases List.mem_append.1 hz with hz | hz
    · rcases hl with e | e
      · rw [e]
        exact h.ap1 z hz k hk
      · rw [e]
        intro e2
        injection e2 with e2
        have := ((h.inner z hz).lt k hk).2
        omega
    · simp at hz
      subst hz
      exact absurd hk (hnb k)
  · rw [List.pairwise_append]
    refine ⟨h.ap2, by simp, fun z hz z' hz' k _ => ?_⟩
    simp at hz'
    subst hz'
    exact hnb k
/-- A thing more, in the last row. -/
theorem RowsMem.add {A' : Option Addr} {c' go no co : Nat} {o : Obj} (h : RowsMem n S base (.slice (some ⟨go, 0, none⟩) no co) (Zi ++ [z]) wr) (hab : z.a ≤ z.b) (hno : Zi.length + 1 = no) (s : Nat) (hs : wr.heap.size ≤ s) (hg : (wr.alloc o).grownBy w' z.v.ownBlock)
    (ho : w'.ownsRow base 63 3 (.slice A' (z.b - z.a + 1) c') (z.b - z.a + 1) (t3s (seg n S z.a z.b ++ [thing n S z.b]))) (hl : (Value.slice A' (z.b - z.a + 1) c').ownBlock = z.v.ownBlock ∨ (Value.slice A' (z.b - z.a + 1) c').ownBlock = some s) :
    RowsMem n S base (.slice (some ⟨go, 0, none⟩) no co) (Zi ++ [⟨A', c', z.a, z.b + 1⟩]) (w'.setCell ⟨go, Zi.length, none⟩ (.slice A' (z.b - z.a + 1) c')) := by
  have hv : (⟨A', c', z.a, z.b + 1⟩ : Rw).v = .slice A' (z.b - z.a + 1) c' := by
    unfold Rw.v
    simp only
    rw [show z.b + 1 - z.a = z.b - z.a + 1 by omega]
  have hzm : z ∈ Zi ++ [z] := by simp
  have hgo : (Value.slice (some ⟨go, 0, none⟩) no co).ownBlock = some go := rfl
  have hlt := (h.own.lt go rfl).2
  have hnew : (Value.slice A' (z.b - z.a + 1) c').ownBlock ≠ some go := by
    rcases hl with e | e
    · rw [e]
      intro e2
      exact h.ap1 z hzm go e2 rfl
    · rw [e]
      intro e2
      injection e2 with e2
      omega
  have hap := List.pairwise_append.1 h.ap2
  have hzi : ∀ z0 ∈ Zi, ∀ k, z0.v.ownBlock = some k → (Value.slice A' (z.b - z.a + 1) c').ownBlock ≠ some k := fun z0 hz0 k hk => by
    rcases hl with e | e
    · rw [e]
      exact hap.2.2 z0 hz0 z (by simp) k hk
    · rw [e]
      intro e2
      injection e2 with e2
      have := ((h.inner z0 (List.mem_append_left _ hz0)).lt k hk).2
      omega
  have hoo : w'.ownsRow base 93 1 (.slice (some ⟨go, 0, none⟩) no co) no ((Zi ++ [z]).map Rw.v) := by
    have h1 := own_apart (h.own.alloc o) hg fun k hk e => h.ap1 z hzm k e hk
    rw [List.length_append, List.length_cons, List.length_nil, hno] at h1
    exact h1
  refine ⟨?_, fun z0 hz0 => ?_, fun z0 hz0 k hk => ?_, ?_⟩
  · have h1 := own_store hoo Zi.length (.slice A' (z.b - z.a + 1) c')
    have e : ((Zi ++ [z]).map Rw.v).set Zi.length (.slice A' (z.b - z.a + 1) c') = (Zi ++ [(⟨A', c', z.a, z.b + 1⟩ : Rw)]).map Rw.v := by
      rw [List.map_append, List.map_append]
      rw [show Zi.length = (Zi.map Rw.v).length by simp, List.set_append_right _ _ (Nat.le_refl _), Nat.sub_self]
      simp [hv]
    rw [e] at h1
    rw [List.length_append, List.length_cons, List.length_nil, hno]
    exact h1
  · rcases List.mem_append.1 hz0 with hz0 | hz0
    · exact own_off (own_apart ((h.inner z0 (List.mem_append_left _ hz0)).alloc o) hg fun k hk e => hap.2.2 z0 hz0 z (by simp) k hk e) (fun e => h.ap1 z0 (List.mem_append_left _ hz0) go e rfl)
    · simp at hz0
      subst hz0
      rw [hv]
      simp only
      rw [show z.b + 1 - z.a = z.b - z.a + 1 by omega, seg_succ n S hab]
      exact own_off ho hnew
  · rcases List.mem_append.1 hz0 with hz0 | hz0
    · exact h.ap1 z0 (List.mem_append_left _ hz0) k hk
    · simp at hz0
      subst hz0
      rw [hv] at hk
      intro e
      rw [hgo] at e
      injection e with e
      subst e
      exact hnew hk
  · rw [List.pairwise_append]
    refine ⟨hap.1, by simp, fun z0 hz0 z' hz' k hk => ?_⟩
    simp at hz'
    subst hz'
    rw [hv]
    exact hzi z0 hz0 k hk
end
/-- The rows' records begin where the rows begin. -/
def recs (n : Int) (S : List Int) (i : Nat) (Z : List Rw) : Prop := Z.map Rw.a = stB n S i ∧ ∀ y, y < Z.length → (Z.map Rw.b).getD y 0 = endB (stB n S i) i y
/-! The walk. -/

theorem end_push {n : Int} {S : List Int} {i y : Nat} (h : i = 0 ∨ brk n S i) (hy : y < (stB n S i).length) : endB (stB n S (i + 1)) (i + 1) y = endB (stB n S i) i y := by
  have e : stB n S (i + 1) = stB n S i ++ [i] := by
    show (if i = 0 ∨ brk n S i then _ else _) = _
    rw [if_pos h]
  rw [e]
  unfold endB
  simp only [List.length_append, List.length_cons, List.length_nil]
  rw [if_pos (by omega)]
  by_cases hy3 : y + 1 < (stB n S i).length
  · rw [if_pos hy3, getD_app hy3]
  · rw [if_neg hy3, show y + 1 = (stB n S i).length by omega, getD_last]
theorem recs_len {n : Int} {S : List Int} {i : Nat} {Z : List Rw} (h : recs n S i Z) : (stB n S i).length = Z.length := by rw [← h.1]; simp
theorem recs_push {n : Int} {S : List Int} {i : Nat} {Z : List Rw} (h : recs n S i Z) (hb : i = 0 ∨ brk n S i) (A' : Option Addr) (c' : Nat) : recs n S (i + 1) (Z ++ [⟨A', c', i, i + 1⟩]) := by
  have hl := recs_len h
  have e : stB n S (i + 1) = stB n S i ++ [i] := by
    show (if i = 0 ∨ brk n S i then _ else _) = _
    rw [if_pos hb]
  refine ⟨by rw [e, List.map_append, h.1]; rfl, fun y hy => ?_⟩
  simp only [List.length_append, List.length_cons, List.length_nil] at hy
  rw [List.map_append]
  by_cases hy2 : y < Z.length
  · rw [end_push hb (by omega), ← h.2 y hy2]
    simp only [List.map_cons, List.map_nil]
    exact getD_app (by simpa using hy2)
  · have hye : y = (Z.map Rw.b).length := by simp; omega
    simp only [List.map_cons, List.map_nil]
    rw [hye, getD_last]
    unfold endB
    rw [e, if_neg (by simp; omega)]
theorem recs_stay {n : Int} {S : List Int} {i : Nat} {Zi : List Rw} {z : Rw} (h : recs n S i (Zi ++ [z])) (hb : ¬ (i = 0 ∨ brk n S i)) (A' : Option Addr) (c' : Nat) : recs n S (i + 1) (Zi ++ [⟨A', c', z.a, i + 1⟩]) := by
  have hl := recs_len h
  simp only [List.length_append, List.length_cons, List.length_nil] at hl
  have e : stB n S (i + 1) = stB n S i := by
    show (if i = 0 ∨ brk n S i then _ else _) = _
    rw [if_neg hb]
  refine ⟨by rw [e, ← h.1]; simp, fun y hy => ?_⟩
  simp only [List.length_append, List.length_cons, List.length_nil] at hy
  rw [List.map_append, e]
  by_cases hy2 : y < Zi.length
  · have h2 := h.2 y (by simp; omega)
    rw [List.map_append] at h2
    simp only [List.map_cons, List.map_nil] at h2 ⊢
    rw [getD_app (by simpa using hy2)] at h2 ⊢
    rw [h2]
    unfold endB
    rw [if_pos (by omega), if_pos (by omega)]
  · have hye : y = (Zi.map Rw.b).length := by simp; omega
    simp only [List.map_cons, List.map_nil]
    rw [hye, getD_last]
    unfold endB
    rw [if_neg (by simp; omega)]
theorem recs_last {n : Int} (hn : 1 ≤ n) {S : List Int} {i : Nat} {Zi : List Rw} {z : Rw} (h : recs n S i (Zi ++ [z])) : z.b = i ∧ z.a ≤ i := by
  have hl := recs_len h
  simp only [List.length_append, List.length_cons, List.length_nil] at hl
  have h2 := h.2 Zi.length (by simp)
  rw [List.map_append] at h2
  simp only [List.map_cons, List.map_nil] at h2
  rw [show Zi.length = (Zi.map Rw.b).length by simp, getD_last] at h2
  have he : endB (stB n S i) i (Zi.map Rw.b).length = i := by
    unfold endB
    rw [if_neg (by simp; omega)]
  rw [he] at h2
  have h3 := ((stB_ok hn S i).row Zi.length (by omega))
  have h4 : (stB n S i).getD Zi.length 0 = z.a := by
    rw [← h.1, List.map_append]
    simp only [List.map_cons, List.map_nil]
    rw [show Zi.length = (Zi.map Rw.a).length by simp, getD_last]
  rw [h4] at h3
  exact ⟨h2, by omega⟩
theorem recs_pos {n : Int} (hn : 1 ≤ n) {S : List Int} {i : Nat} {Z : List Rw} (h : recs n S i Z) (hi : 0 < i) : ∃ Zi z, Z = Zi ++ [z] := by
  have hl := recs_len h
  have h2 := (stB_ok hn S i).len hi
  have hne : Z ≠ [] := fun e => by
    rw [e] at hl
    simp at hl
    rw [hl] at h2
    simp at h2
  exact ⟨Z.dropLast, Z.getLast hne, (List.dropLast_concat_getLast hne).symm⟩
theorem own_len' {w : World} {base : Nat} {e : TypeId} {size n m : Nat} {v : Value} {xs : List Value} (h : w.ownsRow base e size v n xs) (hn : n = m) : w.ownsRow base e size v m xs := hn ▸ h
def RowsPost (n : Int) (S : List Int) (w : World) (e : Ending) (w' : World) : Prop := ∃ A c Z, e = .returned (.slice A (List.length Z) c) ∧ recs n S S.length Z ∧ RowsMem n S w.heap.size (.slice A Z.length c) Z w' ∧ Below w.heap.size w w'
theorem nxt_hot {n : Int} (hn : 1 ≤ n) (S : List Int) (i : Nat) : (n < (if i = 0 then n else (nxtP n S i).1) + wideP n S i) ↔ (i = 0 ∨ brk n S i) := by
  have h := wide_bd hn S i
  by_cases h0 : i = 0
  · simp [h0]
    have := wide_bd hn S 0
    omega
  · rw [if_neg h0]
    constructor
    · exact fun h => .inr h
    · exact fun h => h.resolve_left h0

set_option maxRecDepth 100000 in
set_option maxHeartbeats 8000000 in
theorem rows_any (B : Nat) (A : Option Addr) (c : Nat) (S : List Int) (col n : Int) (w : World) (hA : At B w A (ints S)) (hB : B ≤ w.heap.size) (hl : S.length ≤ 1024) (hn : max col 1 = n) (hn2 : n ≤ 64) :
    Calls Try.prog 34 #[.slice A S.length c, .int .i64 col] w (RowsPost n S w) := by
  have hn1 : 1 ≤ n := by omega
  obtain ⟨N, hN⟩ : ∃ N, S.length = N := ⟨_, rfl⟩
  have HN := Go.Lib.hid hN
  rw [hN] at hl ⊢
  clear hN
  have hcol : max col 1 = n := hn
  go_enter Try.func34, Try.ntmps34
  go_wp2
  clear hcol hn
  go_loopw [5, 6, 14] (fun l_ x_ i_ wr => ∃ (i : Nat) (Z : List Rw) (A' : Option Addr) (c' : Nat), i ≤ N ∧ i_ = .int .i64 i ∧ l_ = .slice A' Z.length c' ∧ x_ = .int .i64 (if i = 0 then n else (nxtP n S i).1) ∧ Hid (recs n S i Z) ∧ Hid (RowsMem n S w.heap.size (.slice A' Z.length c') Z wr) ∧ Below w.heap.size w wr) (fun _ _ i_ _ => N - (intOf i_).toNat)
  case atStart => exact ⟨0, [], none, 0, by omega, rfl, rfl, rfl, Go.Lib.hid ⟨rfl, fun y hy => by simp at hy⟩, Go.Lib.hid (RowsMem.start n S _ _), Below.refl _ _⟩
  case round =>
    obtain ⟨i, Z, A', c', hi, rfl, rfl, rfl, HRE, HRM, hbr⟩ := hrel
    have hsr := hbr.size
    by_cases hlt : i < N
    · have hli : (i : Int) < (N : Int) := by omega
      have hkS : i < S.length := by have := HN.out; omega
      obtain ⟨g, o, rfl, hg, x1⟩ := (hA.below (hbr.mono hB)).int hkS
      have hgd : S.getD i 0 = S[i] := by simp [List.getD, hkS]
      have hw : wideP n S i = min (max S[i] 1) n := by unfold wideP; rw [hgd]
      have hhot := nxt_hot hn1 S i
      have hwb := wide_bd hn1 S i
      have hxb : 0 ≤ (if i = 0 then n else (nxtP n S i).1) ∧ (if i = 0 then n else (nxtP n S i).1) ≤ n := by
        have := nxt_bd hn1 S i
        split <;> omega
      have hcp : colP n S i = if (i = 0 ∨ brk n S i) then 0 else (if i = 0 then n else (nxtP n S i).1) := by
        by_cases h0 : i = 0
        · subst h0
          rw [if_pos (Or.inl rfl)]
          unfold colP
          rw [if_neg (first_at hn1 S)]
          rfl
        · rw [if_neg h0]
          unfold colP
          by_cases hb : brk n S i
          · rw [if_pos hb, if_pos (Or.inr hb)]
          · rw [if_neg hb, if_neg (fun h => hb (h.resolve_left h0))]
      have hnx : (if i + 1 = 0 then n else (nxtP n S (i + 1)).1) = colP n S i + wideP n S i := by rw [if_neg (by omega), nxt_succ]
      have HNX := Go.Lib.hid hnx
      have HW := Go.Lib.hid hw
      have hz4 : Z.length ≤ 1024 := by
        have h1 := recs_len HRE.out
        rcases Nat.eq_zero_or_pos i with h0 | h0
        · rw [(stB_ok hn1 S i).none h0] at h1
          simp at h1
          omega
        · have h2 := (stB_ok hn1 S i).len h0
          have h3 := row_le hn1 S (i - 1)
          omega
      obtain ⟨xv, hxv⟩ : ∃ xv, (if i = 0 then n else (nxtP n S i).1) = xv := ⟨_, rfl⟩
      rw [hxv] at hhot hxb hcp ⊢
      rw [hw] at hhot hwb
      have HHOT := Go.Lib.hid hhot
      have HCP := Go.Lib.hid hcp
      clear hgd hw hnx hxv hcp
      generalize S[i] = s at *
      obtain ⟨k, hk⟩ : ∃ k, min (max s 1) n = k := ⟨_, rfl⟩
      have HK := Go.Lib.hid hk
      rw [hk] at hwb hhot
      go_upto_region 8 with fail
      by_cases hot : n < xv + k
      · have hb := hhot.1 hot
        have hcx : colP n S i = 0 := by rw [HCP.out, if_pos hb]
        have HREC0 : Hid (∀ A' c', recs n S (i + 1) (Z ++ [⟨A', c', i, i + 1⟩])) := Go.Lib.hid fun A' c' => recs_push HRE.out hb A' c'
        clear hhot hb
        go_wp2_with (first | (at_builtin; refine append_nilrow rfl (.tmp 28) (.tmp 29) rfl w.heap.size _ Z.length (Z.map Rw.v) wr.heap.size rfl rfl (HRM.out.own.alloc _) (by simp [go_sem]) ?_ ?_ ?_))
        · omega
        · (try simp); omega
        intro v2 w4 hown4 hg4 hloc4
        have hrm := HRM.out.push i (wr.heap.size + 1) (Nat.le_succ _) hg4 hown4 (by simpa using hloc4)
        obtain ⟨A2, c2, rfl⟩ := own_shape hown4
        obtain ⟨go, rfl, _, _⟩ := own_head hown4 (by omega)
        have hbw : Below w.heap.size w w4 := (hbr.alloc hsr _).grown hg4 (by simp; omega) (own_ge HRM.out.own)
        obtain ⟨z, hz⟩ : ∃ z : Rw, z = ⟨none, 0, i, i⟩ := ⟨_, rfl⟩
        rw [← hz] at hrm
        have hzb : z.b = i := by rw [hz]
        have hzab : z.a ≤ z.b := by rw [hz]; exact Nat.le_refl _
        have HREC : Hid (∀ A' c', recs n S (i + 1) (Z ++ [⟨A', c', z.a, i + 1⟩])) := Go.Lib.hid fun A' c' => by rw [hz]; exact HREC0.out A' c'
        have HRM2 := Go.Lib.hid hrm
        have hgo : w.heap.size ≤ go := by assumption
        clear hown4 hg4 hloc4 HRE HRM hz hrm HREC0
        obtain ⟨Zi, hZi⟩ : ∃ Zi, Z = Zi := ⟨_, rfl⟩
        subst hZi
        have HRM := HRM2
        clear HRM2
        have hzv : z.v = .slice z.A (z.b - z.a) z.c := rfl
        have hino := HRM.out.inner z (by simp)
        have hown0 := own_len' HRM.out.own (show (Z ++ [z]).length = Z.length + 1 by simp)
        have hcell := hown0.cellAt Z.length (by omega)
        rw [show ((Z ++ [z]).map Rw.v)[Z.length]? = some z.v by simp] at hcell
        obtain ⟨len, hlen⟩ : ∃ len, z.b - z.a = len := ⟨_, rfl⟩
        rw [hzv, hlen] at hcell hino
        have HLEN := Go.Lib.hid hlen
        have hsl : (seg n S z.a z.b).length = len := by rw [seg_len, hlen]
        have HSL := Go.Lib.hid hsl
        have hino2 : w4.ownsRow w.heap.size 63 3 (.slice z.A len z.c) (seg n S z.a z.b).length (t3s (seg n S z.a z.b)) := by rw [hsl]; exact hino
        have HINO := Go.Lib.hid hino2
        have hlen4 : len ≤ 1024 := by have := hzb; omega
        have hlgo := (hown0.lt go rfl).2
        have HOWN0 := Go.Lib.hid hown0
        have hgz := hbw.size
        have HTH : Hid (thing n S z.b = ⟨(0 : Int), k, (i : Int)⟩) := Go.Lib.hid (by rw [hzb]; unfold thing; rw [hcx, HW.out, HK.out])
        have HZB := Go.Lib.hid hzb
        have HZAB := Go.Lib.hid hzab
        have HCX := Go.Lib.hid hcx
        clear hzv hlen hsl hino hino2 hzb hzab hcx hown0
        go_wp2_with (first | (at_builtin; refine append_thing rfl (.tmp 40) (.tmp 45) rfl w.heap.size _ (seg n S z.a z.b) ⟨(0 : Int), k, (i : Int)⟩ w4.heap.size rfl rfl (HINO.out.alloc _) (by simp [go_sem]) (by simp [go_sem]) (by simp [go_sem]) ?_ ?_ ?_))
        · have := HSL.out; omega
        · (try simp); omega
        intro v3 w5 hown5 hg5 hloc5
        have hown7 : w5.ownsRow w.heap.size 63 3 v3 (len + 1) (t3s (seg n S z.a z.b ++ [(⟨(0 : Int), k, (i : Int)⟩ : T3)])) := own_len' hown5 (by first | (rw [List.length_append, HSL.out]; rfl) | (rw [HSL.out]))
        obtain ⟨A', c', rfl⟩ := own_shape hown7
        have hown6 : w5.ownsRow w.heap.size 63 3 (.slice A' (z.b - z.a + 1) c') (z.b - z.a + 1) (t3s (seg n S z.a z.b ++ [thing n S z.b])) := by
          rw [HTH.out, HLEN.out]
          exact hown7
        have hzvl : z.v = .slice z.A len z.c := by show Value.slice z.A (z.b - z.a) z.c = _; rw [HLEN.out]
        have hout5 := own_apart (HOWN0.out.alloc (.cells #[.int .i64 0, .int .i64 k, .int .i64 i] 63)) hg5 (fun kk hk e => HRM.out.ap1 z (by simp) kk (by rw [hzvl]; exact e) hk)
        have hadd := HRM.out.add (o := .cells #[.int .i64 0, .int .i64 k, .int .i64 i] 63) (by have := HZAB.out; omega) rfl (w4.heap.size + 1) (Nat.le_succ _) (by rw [hzvl]; exact hg5) hown6 (by rw [hzvl, HLEN.out]; first | exact hloc5 | simpa using hloc5)
        rw [HLEN.out] at hadd
        have hb5 : Below w.heap.size w w5 := (hbw.alloc hgz _).grown hg5 (by simp; omega) (fun kk hk => own_ge HINO.out kk hk)
        have hb6 := hb5.setCell (p := ⟨go, Z.length, none⟩) hgo (.slice A' (len + 1) c')
        have c1 := hout5.cellAt Z.length (by omega)
        rw [show ((Z ++ [z]).map Rw.v)[Z.length]? = some z.v by simp, hzvl] at c1
        have f1 := hout5.frozenAt Z.length
        have HADD := Go.Lib.hid hadd
        have HB6 := Go.Lib.hid hb6
        have HRE2 := Go.Lib.hid (HREC.out A' c')
        clear hown5 hown6 hown7 hg5 hloc5 hout5 hadd hb5 hb6 hzvl hcell HRM HINO HOWN0
        go_wp2
        go_roundw
        case rel => exact ⟨i + 1, Z ++ [⟨A', c', z.a, z.b + 1⟩], some ⟨go, 0, none⟩, c2, by omega, by go_num, by simp, (by rw [HNX.out, HCX.out, HW.out, HK.out]; try rw [Int.zero_add]), Go.Lib.hid (by rw [HZB.out]; exact HRE2.out), Go.Lib.hid (by rw [show (Z ++ [(⟨A', c', z.a, z.b + 1⟩ : Rw)]).length = Z.length + 1 by simp]; exact HADD.out), HB6.out⟩
        case measure => simp [intOf]; omega
      · have hnb : ¬ (i = 0 ∨ brk n S i) := fun h => hot (hhot.2 h)
        have hcx : colP n S i = xv := by rw [HCP.out, if_neg hnb]
        obtain ⟨Zi, z, rfl⟩ := recs_pos hn1 HRE.out (Nat.pos_of_ne_zero fun e => hnb (.inl e))
        obtain ⟨hzb, hza⟩ := recs_last hn1 HRE.out
        have hzab : z.a ≤ z.b := by omega
        have HREC : Hid (∀ A' c', recs n S (i + 1) (Zi ++ [⟨A', c', z.a, i + 1⟩])) := Go.Lib.hid fun A' c' => recs_stay HRE.out hnb A' c'
        generalize c' = c2 at *
        have hln : (Zi ++ [z]).length = Zi.length + 1 := by simp
        have hrm := HRM.out
        rw [hln] at hrm hz4 ⊢
        obtain ⟨go, rfl, hgo, _⟩ := own_head (own_len' hrm.own hln) (by omega)
        have HRM := Go.Lib.hid hrm
        have hbw := hbr
        clear hhot hnb hza HRE hln hrm HCP
        have hzv : z.v = .slice z.A (z.b - z.a) z.c := rfl
        have hino := HRM.out.inner z (by simp)
        have hown0 := own_len' HRM.out.own (show (Zi ++ [z]).length = Zi.length + 1 by simp)
        have hcell := hown0.cellAt Zi.length (by omega)
        rw [show ((Zi ++ [z]).map Rw.v)[Zi.length]? = some z.v by simp] at hcell
        obtain ⟨len, hlen⟩ : ∃ len, z.b - z.a = len := ⟨_, rfl⟩
        rw [hzv, hlen] at hcell hino
        have HLEN := Go.Lib.hid hlen
        have hsl : (seg n S z.a z.b).length = len := by rw [seg_len, hlen]
        have HSL := Go.Lib.hid hsl
        have hino2 : wr.ownsRow w.heap.size 63 3 (.slice z.A len z.c) (seg n S z.a z.b).length (t3s (seg n S z.a z.b)) := by rw [hsl]; exact hino
        have HINO := Go.Lib.hid hino2
        have hlen4 : len ≤ 1024 := by have := hzb; omega
        have hlgo := (hown0.lt go rfl).2
        have HOWN0 := Go.Lib.hid hown0
        have hgz := hbw.size
        have HTH : Hid (thing n S z.b = ⟨xv, k, (i : Int)⟩) := Go.Lib.hid (by rw [hzb]; unfold thing; rw [hcx, HW.out, HK.out])
        have HZB := Go.Lib.hid hzb
        have HZAB := Go.Lib.hid hzab
        have HCX := Go.Lib.hid hcx
        clear hzv hlen hsl hino hino2 hzb hzab hcx hown0
        go_wp2_with (first | (at_builtin; refine append_thing rfl (.tmp 40) (.tmp 45) rfl w.heap.size _ (seg n S z.a z.b) ⟨xv, k, (i : Int)⟩ wr.heap.size rfl rfl (HINO.out.alloc _) (by simp [go_sem]) (by simp [go_sem]) (by simp [go_sem]) ?_ ?_ ?_))
        · have := HSL.out; omega
        · (try simp); omega
        intro v3 w5 hown5 hg5 hloc5
        have hown7 : w5.ownsRow w.heap.size 63 3 v3 (len + 1) (t3s (seg n S z.a z.b ++ [(⟨xv, k, (i : Int)⟩ : T3)])) := own_len' hown5 (by first | (rw [List.length_append, HSL.out]; rfl) | (rw [HSL.out]))
        obtain ⟨A', c', rfl⟩ := own_shape hown7
        have hown6 : w5.ownsRow w.heap.size 63 3 (.slice A' (z.b - z.a + 1) c') (z.b - z.a + 1) (t3s (seg n S z.a z.b ++ [thing n S z.b])) := by
          rw [HTH.out, HLEN.out]
          exact hown7
        have hzvl : z.v = .slice z.A len z.c := by show Value.slice z.A (z.b - z.a) z.c = _; rw [HLEN.out]
        have hout5 := own_apart (HOWN0.out.alloc (.cells #[.int .i64 xv, .int .i64 k, .int .i64 i] 63)) hg5 (fun kk hk e => HRM.out.ap1 z (by simp) kk (by rw [hzvl]; exact e) hk)
        have hadd := HRM.out.add (o := .cells #[.int .i64 xv, .int .i64 k, .int .i64 i] 63) (by have := HZAB.out; omega) rfl (wr.heap.size + 1) (Nat.le_succ _) (by rw [hzvl]; exact hg5) hown6 (by rw [hzvl, HLEN.out]; first | exact hloc5 | simpa using hloc5)
        rw [HLEN.out] at hadd
        have hb5 : Below w.heap.size w w5 := (hbw.alloc hgz _).grown hg5 (by simp; omega) (fun kk hk => own_ge HINO.out kk hk)
        have hb6 := hb5.setCell (p := ⟨go, Zi.length, none⟩) hgo (.slice A' (len + 1) c')
        have c1 := hout5.cellAt Zi.length (by omega)
        rw [show ((Zi ++ [z]).map Rw.v)[Zi.length]? = some z.v by simp, hzvl] at c1
        have f1 := hout5.frozenAt Zi.length
        have HADD := Go.Lib.hid hadd
        have HB6 := Go.Lib.hid hb6
        have HRE2 := Go.Lib.hid (HREC.out A' c')
        clear hown5 hown6 hown7 hg5 hloc5 hout5 hadd hb5 hb6 hzvl hcell HRM HINO HOWN0
        go_wp2
        go_roundw
        case rel => exact ⟨i + 1, Zi ++ [⟨A', c', z.a, z.b + 1⟩], some ⟨go, 0, none⟩, c2, by omega, by go_num, by simp, (by rw [HNX.out, HCX.out, HW.out, HK.out]; try rw [Int.zero_add]), Go.Lib.hid (by rw [HZB.out]; exact HRE2.out), Go.Lib.hid (by rw [show (Zi ++ [(⟨A', c', z.a, z.b + 1⟩ : Rw)]).length = Zi.length + 1 by simp]; exact HADD.out), HB6.out⟩
        case measure => simp [intOf]; omega
    · have hlt' : ¬ ((i : Int) < (N : Int)) := by omega
      have hie : i = N := by omega
      subst hie
      generalize (if i = 0 then n else (nxtP n S i).1) = xv at *
      go_wp2
      go_ret
      exact ⟨A', c', Z, rfl, by rw [HN.out]; exact HRE.out, HRM.out, hbr⟩
end Go.Proofs.Ytjippgflempdmaa

/- Layer 11: each: something is done with all things. -/
namespace Go.Proofs.Ytjippgflempdmaa
set_option linter.unusedVariables false
set_option linter.unusedSimpArgs false
set_option maxRecDepth 100000
open Go.RowKit
attribute [local go_sem] max_fold min_fold

theorem At.val {B : Nat} {w : World} {A : Option Addr} {xs : List Value} (h : At B w A xs) {j : Nat} {v : Value} (hj : xs[j]? = some v) : ∃ g o, A = some ⟨g, o, none⟩ ∧ g < B ∧ w.cell? ⟨g, o + j, none⟩ = some v := by
  obtain ⟨g, o, hA, hg, hc⟩ := h (by have := (List.getElem?_eq_some_iff.1 hj).1; omega)
  exact ⟨g, o, hA, hg, hc j v hj⟩
/-- Rows that can be read. -/
structure RowsAt (n : Int) (S : List Int) (A : Option Addr) (Z : List Rw) (wr : World) : Prop where
  outer : At wr.heap.size wr A (Z.map Rw.v)
  inner : ∀ z ∈ Z, At wr.heap.size wr z.A (t3s (seg n S z.a z.b))
/-- Rows of the call's own, in blocks from base on and below top. -/
structure RowsIn (n : Int) (S : List Int) (base top : Nat) (A : Option Addr) (c : Nat) (Z : List Rw) (wr : World) : Prop where
  mem : RowsMem n S base (.slice A Z.length c) Z wr
  ot : ∀ k, (Value.slice A Z.length c).ownBlock = some k → k < top
  it : ∀ z ∈ Z, ∀ k, z.v.ownBlock = some k → k < top
theorem RowsIn.of {n : Int} {S : List Int} {base c : Nat} {A : Option Addr} {Z : List Rw} {wr : World} (h : RowsMem n S base (.slice A Z.length c) Z wr) : RowsIn n S base wr.heap.size A c Z wr :=
  ⟨h, fun k hk => (h.own.lt k hk).2, fun z hz k hk => ((h.inner z hz).lt k hk).2⟩
theorem own_same {w w' : World} {base : Nat} {e : TypeId} {size n : Nat} {v : Value} {xs : List Value} (h : w.ownsRow base e size v n xs) {top : Nat} (ht : ∀ k, v.ownBlock = some k → k < top) (hs : ∀ k, base ≤ k → k < top → w'.heap[k]? = w.heap[k]?) : w'.ownsRow base e size v n xs := by
  refine ⟨h.1, ?_⟩
  rcases h.2 with h2 | ⟨g, cap, cur, rfl, hg, hh, r⟩
  · exact .inl h2
  · exact .inr ⟨g, cap, cur, rfl, hg, by rw [hs g hg (ht g rfl)]; exact hh, r⟩
theorem RowsIn.same {n : Int} {S : List Int} {base top c : Nat} {A : Option Addr} {Z : List Rw} {wr w' : World} (h : RowsIn n S base top A c Z wr) (hs : ∀ k, base ≤ k → k < top → w'.heap[k]? = wr.heap[k]?) : RowsIn n S base top A c Z w' :=
  ⟨⟨own_same h.mem.own h.ot hs, fun z hz => own_same (h.mem.inner z hz) (h.it z hz) hs, h.mem.ap1, h.mem.ap2⟩, h.ot, h.it⟩
theorem RowsIn.at {n : Int} {S : List Int} {base top c : Nat} {A : Option Addr} {Z : List Rw} {wr : World} (h : RowsIn n S base top A c Z wr) : RowsAt n S A Z wr :=
  ⟨At.of_own h.mem.own, fun z hz => At.of_own (h.mem.inner z hz)⟩
theorem recs_row {n : Int} (hn : 1 ≤ n) {S : List Int} {N y : Nat} {Z : List Rw} (h : recs n S N Z) (hy : y < Z.length) : (stB n S N).getD y 0 = Z[y].a ∧ endB (stB n S N) N y = Z[y].b ∧ Z[y].a < Z[y].b ∧ Z[y].b ≤ N ∧ ∀ t, Z[y].a ≤ t → t < Z[y].b → rowP n S t = y := by
  have h1 : (stB n S N).getD y 0 = Z[y].a := by rw [← h.1]; simp [List.getD, hy]
  have h2 := h.2 y hy
  have h3 : (Z.map Rw.b).getD y 0 = Z[y].b := by simp [List.getD, hy]
  rw [h3] at h2
  obtain ⟨r1, r2, r3⟩ := (stB_ok hn S N).row y (by rw [recs_len h]; exact hy)
  rw [h1, ← h2] at r1
  rw [← h2] at r2
  rw [h1, ← h2] at r3
  exact ⟨h1, h2.symm, r1, r2, r3⟩
/-- The number of the first thing of row y. -/
def nbP (N : Nat) (Z : List Rw) (y : Nat) : Nat := if h : y < Z.length then Z[y].a else N
theorem nb_zero {n : Int} (hn : 1 ≤ n) {S : List Int} {N : Nat} {Z : List Rw} (h : recs n S N Z) : nbP N Z 0 = 0 := by
  unfold nbP
  split
  · rename_i h0
    obtain ⟨h1, _, h3, h4, _⟩ := recs_row hn h h0
    rw [← h1]
    exact (stB_ok hn S N).zero (by omega)
  · rename_i h0
    have hl := recs_len h
    rcases Nat.eq_zero_or_pos N with e | e
    · exact e
    · have := (stB_ok hn S N).len e
      omega
theorem nb_succ {n : Int} (hn : 1 ≤ n) {S : List Int} {N y : Nat} {Z : List Rw} (h : recs n S N Z) (hy : y < Z.length) : nbP N Z (y + 1) = Z[y].b := by
  obtain ⟨_, h2, _⟩ := recs_row hn h hy
  rw [← h2]
  unfold nbP endB
  rw [recs_len h]
  by_cases h3 : y + 1 < Z.length
  · rw [dif_pos h3, if_pos h3]
    exact (recs_row hn h h3).1.symm
  · rw [dif_neg h3, if_neg h3]
theorem nb_end (N : Nat) (Z : List Rw) : nbP N Z Z.length = N := by
  unfold nbP
  rw [dif_neg (Nat.lt_irrefl _)]

set_option maxRecDepth 100000 in
set_option maxHeartbeats 8000000 in
theorem each_any (K : Nat) (caps : Array Value) (eg : ∀ args w, (callFunc K args).run Try.prog w = .ok (.enter K args) w) (n : Int) (hn : 1 ≤ n) (S : List Int) (N : Nat) (hN : N ≤ 1024) (A : Option Addr) (c : Nat) (Z : List Rw) (hrec : recs n S N Z) (I : Nat → World → Prop)
    (hrows : ∀ i w, I i w → RowsAt n S A Z w) (hext : ∀ i w w', I i w → Below w.heap.size w w' → I i w')
    (hcall : ∀ i w, i < N → I i w → Calls Try.prog K (#[.agg #[.int .i64 (colP n S i), .int .i64 (wideP n S i), .int .i64 i], .int .i64 (rowP n S i)] ++ caps) w fun e w' => e = .returned (.tuple #[]) ∧ I (i + 1) w')
    (w : World) (h0 : I 0 w) : Calls Try.prog 33 #[.slice A Z.length c, .func (.func K) #[] caps] w fun e w' => e = .returned (.tuple #[]) ∧ I N w' := by
  have HR := Go.Lib.hid hrows
  have HE := Go.Lib.hid hext
  have HC := Go.Lib.hid hcall
  have HREC := Go.Lib.hid hrec
  have H0 : Hid (I (nbP N Z 0) w) := Go.Lib.hid (by rw [nb_zero hn hrec]; exact h0)
  have hzl : Z.length ≤ 2000 := by
    have h1 := recs_len hrec
    rcases Nat.eq_zero_or_pos N with e | e
    · rw [(stB_ok hn S N).none e] at h1
      simp at h1
      omega
    · have h2 := (stB_ok hn S N).len e
      have h3 := row_le hn S (N - 1)
      omega
  obtain ⟨R, hR⟩ : ∃ R, Z.length = R := ⟨_, rfl⟩
  have HRR := Go.Lib.hid hR
  rw [hR] at hzl ⊢
  clear hrows hext hcall hrec h0 hR
  go_enter Try.func33, Try.ntmps33
  go_wp2
  go_loopw [10] (fun i_ wr => ∃ y : Nat, y ≤ R ∧ i_ = .int .i64 y ∧ Hid (I (nbP N Z y) wr)) (fun i_ _ => R - (intOf i_).toNat)
  case atStart => exact ⟨0, by omega, rfl, H0⟩
  case round =>
    clear H0
    obtain ⟨y, hy, rfl, HI⟩ := hrel
    by_cases hlt : y < R
    · have hli : (y : Int) < (R : Int) := by omega
      have hyZ : y < Z.length := by have := HRR.out; omega
      obtain ⟨r1, r2, r3, r4, r5⟩ := recs_row hn HREC.out hyZ
      have HNB := Go.Lib.hid (nb_succ hn HREC.out hyZ)
      have hra := HR.out _ _ HI.out
      have hva : (Z.map Rw.v)[y]? = some (.slice Z[y].A (Z[y].b - Z[y].a) Z[y].c) := by simp [hyZ, Rw.v]
      obtain ⟨g, o, rfl, hg, x1⟩ := hra.outer.val hva
      have hI2 : I (Z[y].a + 0) wr := by
        have := HI.out
        unfold nbP at this
        rw [dif_pos hyZ] at this
        exact this
      have HI0 := Go.Lib.hid hI2
      have HZM : Hid (Z[y] ∈ Z) := Go.Lib.hid (List.getElem_mem hyZ)
      have HR5 := Go.Lib.hid r5
      clear hra hva hI2 HI r1 r2 r5
      generalize Z[y] = z at *
      obtain ⟨len, hlen⟩ : ∃ len, z.b - z.a = len := ⟨_, rfl⟩
      rw [hlen] at x1
      have HLEN := Go.Lib.hid hlen
      have hl4 : len ≤ 1024 := by omega
      clear hlen
      go_wp2
      go_loopw [17] (fun i_ wq => ∃ j : Nat, j ≤ len ∧ i_ = .int .i64 j ∧ Hid (I (z.a + j) wq)) (fun i_ _ => len - (intOf i_).toNat)
      case atStart => exact ⟨0, by omega, rfl, HI0⟩
      case round =>
        clear HI0 x1
        obtain ⟨j, hj, rfl, HI⟩ := hrel
        by_cases hjl : j < len
        · have hji : (j : Int) < (len : Int) := by omega
          have hjs : j < (seg n S z.a z.b).length := by rw [seg_len]; have := HLEN.out; omega
          obtain ⟨g2, o2, hzA, hg2, c0, c1, c2⟩ := ((HR.out _ _ HI.out).inner z HZM.out).t3 hjs
          have hth : (seg n S z.a z.b)[j] = thing n S (z.a + j) := by simp [seg]
          rw [hth] at c0 c1 c2
          have hrow : rowP n S (z.a + j) = y := HR5.out _ (by omega) (by have := HLEN.out; omega)
          have htN : z.a + j < N := by have := HLEN.out; omega
          have HCALL : Hid (∀ wq, I (z.a + j) wq → Calls Try.prog K (#[.agg #[.int .i64 (colP n S (z.a + j)), .int .i64 (wideP n S (z.a + j)), .int .i64 ((z.a + j : Nat) : Int)], .int .i64 y] ++ caps) wq fun e w' => e = .returned (.tuple #[]) ∧ I (z.a + j + 1) w') := Go.Lib.hid fun wq h => by
            have := HC.out _ wq htN h
            rwa [hrow] at this
          simp only [thing] at c0 c1 c2
          generalize hth2 : (((z.a + j : Nat) : Int)) = ti at *
          generalize colP n S (z.a + j) = cx at *
          generalize wideP n S (z.a + j) = wd at *
          clear hth hrow
          obtain ⟨zA, hzA2⟩ : ∃ zA, z.A = zA := ⟨_, rfl⟩
          rw [hzA2] at hzA
          rw [hzA2]
          subst hzA
          have lg := World.block_lt_of_cell? _ _ c0
          clear hzA2
          have HIJ := HI
          clear HI hzl
          go_wp2_with fail
          refine (HCALL.out _ (HE.out _ _ _ HIJ.out ((Below.refl _ _).alloc (Nat.le_refl _) _))).mono ?_
          rintro e w2 ⟨rfl, hI2⟩
          have HI2 := Go.Lib.hid hI2
          clear hI2
          go_wp2
          go_roundw
          case rel => exact ⟨j + 1, by omega, by go_num, HI2⟩
          case measure => simp [intOf]; omega
        · have hjl' : ¬ ((j : Int) < (len : Int)) := by omega
          have HI2 : Hid (I (nbP N Z (y + 1)) wr) := Go.Lib.hid (by
            rw [HNB.out]
            have := HI.out
            rwa [show z.a + j = z.b by have := HLEN.out; omega] at this)
          clear HI
          go_wp2
          exact ⟨⟨y + 1, by omega, by go_num, HI2⟩, by simp [intOf]; omega⟩
    · have hlt' : ¬ ((y : Int) < (R : Int)) := by omega
      have hye : y = Z.length := by have := HRR.out; omega
      have HI2 : Hid (I N wr) := Go.Lib.hid (by
        have := HI.out
        rwa [hye, nb_end] at this)
      clear HI hye
      go_wp2
      go_end0
      exact ⟨rfl, HI2.out⟩
end Go.Proofs.Ytjippgflempdmaa

/- Layer 11: numbers that may be, the first of what is wrong; both sides. (Printed by grid/gen_num.py.) -/
namespace Go.Proofs.Ytjippgflempdmaa
set_option linter.unusedVariables false
set_option linter.unusedSimpArgs false
set_option maxRecDepth 100000
open Go.RowKit
attribute [local go_sem] max_fold min_fold

def inN (most n : Int) : Bool := decide (0 ≤ n ∧ n ≤ most)
def numE (most : Int) (l : List Int) : Int := if 1024 < l.length then 4 else if l.all (inN most) then 0 else 2
def num1 (most n : Int) : Int := if inN most n then 0 else 2
theorem numE_one (most n : Int) : numE most [n] = num1 most n := by
  unfold numE num1
  simp
theorem numE_no {most : Int} {l : List Int} (h : ¬ 1024 < l.length) {k : Nat} (hk : k < l.length) (hn : inN most l[k] = false) : numE most l = 2 := by
  unfold numE
  rw [if_neg h, if_neg]
  intro ha
  have := List.all_eq_true.1 ha l[k] (List.getElem_mem hk)
  rw [hn] at this
  cases this
theorem numE_yes {most : Int} {l : List Int} (h : ¬ 1024 < l.length) (hn : ∀ v ∈ l, inN most v = true) : numE most l = 0 := by
  unfold numE
  rw [if_neg h, if_pos (List.all_eq_true.2 hn)]
theorem numE_ok {most : Int} {l : List Int} (h : numE most l = 0) : l.length ≤ 1024 ∧ ∀ v ∈ l, 0 ≤ v ∧ v ≤ most := by
  unfold numE at h
  split at h
  · omega
  · split at h
    · rename_i h1 h2
      exact ⟨by omega, fun v hv => by simpa [inN] using List.all_eq_true.1 h2 v hv⟩
    · omega
theorem take_in {most : Int} {X : List Int} {k : Nat} (h : ∀ v ∈ X.take k, inN most v = true) (hk : k < X.length) (hn : inN most X[k] = true) : ∀ v ∈ X.take (k + 1), inN most v = true := by
  intro v hv
  rw [List.take_succ_eq_append_getElem hk] at hv
  rcases List.mem_append.1 hv with hv | hv
  · exact h v hv
  · simp at hv
    rw [hv]
    exact hn
/-- The first that is an error. -/
def askE : List Int → Int
  | [] => 0
  | e :: l => if e = 0 then askE l else e
theorem askE_skip {l : List Int} : ∀ k, k ≤ l.length → (∀ v ∈ l.take k, v = 0) → askE l = askE (l.drop k) := by
  induction l with
  | nil => intro k hk _; simp at hk; rw [hk]; rfl
  | cons e l ih =>
    intro k hk h
    cases k with
    | zero => rfl
    | succ k =>
      have he : e = 0 := h e (by simp)
      rw [List.drop_succ_cons]
      show (if e = 0 then askE l else e) = _
      rw [if_pos he]
      exact ih k (by simpa using hk) (fun v hv => h v (by simp [hv]))
theorem askE_at {l : List Int} {k : Nat} (hk : k < l.length) (h : ∀ v ∈ l.take k, v = 0) (hn : l[k] ≠ 0) : askE l = l[k] := by
  rw [askE_skip k (by omega) h, List.drop_eq_getElem_cons hk]
  show (if l[k] = 0 then _ else l[k]) = _
  rw [if_neg hn]
theorem askE_none {l : List Int} (h : ∀ v ∈ l, v = 0) : askE l = 0 := by
  rw [askE_skip l.length (Nat.le_refl _) (by rw [List.take_length]; exact h), List.drop_length]
  rfl
theorem take_zero {X : List Int} {k : Nat} (h : ∀ v ∈ X.take k, v = 0) (hk : k < X.length) (hn : X[k] = 0) : ∀ v ∈ X.take (k + 1), v = 0 := by
  intro v hv
  rw [List.take_succ_eq_append_getElem hk] at hv
  rcases List.mem_append.1 hv with hv | hv
  · exact h v hv
  · simp at hv
    rw [hv]
    exact hn

set_option maxRecDepth 100000 in
set_option maxHeartbeats 2000000 in
theorem numbers_any (B : Nat) (A : Option Addr) (c : Nat) (most : Int) (l : List Int) (w : World) (hA : At B w A (ints l)) (hl : l.length ≤ 9000000000000000000) :
    Calls Try.prog 32 #[.int .i64 most, .slice A l.length c] w fun e w' => e = .returned (.int .i64 (numE most l)) ∧ w = w' := by
  by_cases hbig : 1024 < l.length
  · have hb : (1024 : Int) < (l.length : Int) := by omega
    rw [show numE most l = 4 by unfold numE; rw [if_pos hbig]]
    clear hbig
    go_enter Try.func32, Try.ntmps32
    go_wp2
    go_ret
    exact ⟨rfl, rfl⟩
  · have hb : ¬ (1024 : Int) < (l.length : Int) := by omega
    have hl2 : l.length ≤ 1024 := by omega
    have HN : Hid (∀ k (hk : k < l.length), inN most l[k] = false → numE most l = 2) := Go.Lib.hid fun k hk h => numE_no hbig hk h
    have HY : Hid ((∀ v ∈ l, inN most v = true) → numE most l = 0) := Go.Lib.hid fun h => numE_yes hbig h
    obtain ⟨E, hE⟩ : ∃ E, numE most l = E := ⟨_, rfl⟩
    rw [hE] at HN HY ⊢
    clear hbig hE hl
    go_enter Try.func32, Try.ntmps32
    go_wp2
    go_loop [12] (fun i => ∃ k : Nat, k ≤ l.length ∧ i = .int .i64 k ∧ Hid (∀ v ∈ l.take k, inN most v = true)) (fun i => l.length - (intOf i).toNat)
    case atStart => exact ⟨0, by omega, rfl, Go.Lib.hid fun v hv => by simp at hv⟩
    case round =>
      obtain ⟨k, hk, rfl, HP⟩ := hrel
      by_cases hlt : k < l.length
      · have hli : (k : Int) < (l.length : Int) := by omega
        obtain ⟨g, o, rfl, hg, x1⟩ := hA.int hlt
        have HT : Hid (inN most l[k] = true → ∀ v ∈ l.take (k + 1), inN most v = true) := Go.Lib.hid fun h => take_in HP.out hlt h
        have HN2 := Go.Lib.hid (HN.out k hlt)
        clear hA
        generalize l[k] = v at *
        by_cases h1 : v < 0
        · have hf := HN2.out (by simp [inN]; omega)
          subst hf
          go_wp2
          go_ret
          exact ⟨rfl, rfl⟩
        · by_cases h2 : most < v
          · have hf := HN2.out (by simp [inN]; omega)
            subst hf
            go_wp2
            go_ret
            exact ⟨rfl, rfl⟩
          · have HT2 := Go.Lib.hid (HT.out (by simp [inN]; omega))
            go_wp2
            go_round
            case rel => exact ⟨k + 1, by omega, by go_num, HT2⟩
            case measure => simp [intOf]; omega
      · have hlt' : ¬ ((k : Int) < (l.length : Int)) := by omega
        have hkx : k = l.length := by omega
        have hz := HY.out (by have := HP.out; rw [hkx, List.take_length] at this; exact this)
        subst hz
        go_wp2
        go_ret
        exact ⟨rfl, rfl⟩

set_option maxRecDepth 100000 in
set_option maxHeartbeats 2000000 in
theorem reach_any (B : Nat) (A : Option Addr) (c : Nat) (most : Int) (l : List Int) (w : World) (hA : At B w A (ints l)) (hl : l.length ≤ 9000000000000000000) :
    Calls Try.prog 46 #[.slice A l.length c, .int .i64 most] w fun e w' => e = .returned (.int .i64 (numE most l)) ∧ w = w' := by
  by_cases hbig : 1024 < l.length
  · have hb : (1024 : Int) < (l.length : Int) := by omega
    rw [show numE most l = 4 by unfold numE; rw [if_pos hbig]]
    clear hbig
    go_enter Try.func46, Try.ntmps46
    go_wp2
    go_ret
    exact ⟨rfl, rfl⟩
  · have hb : ¬ (1024 : Int) < (l.length : Int) := by omega
    have hl2 : l.length ≤ 1024 := by omega
    have HN : Hid (∀ k (hk : k < l.length), inN most l[k] = false → numE most l = 2) := Go.Lib.hid fun k hk h => numE_no hbig hk h
    have HY : Hid ((∀ v ∈ l, inN most v = true) → numE most l = 0) := Go.Lib.hid fun h => numE_yes hbig h
    obtain ⟨E, hE⟩ : ∃ E, numE most l = E := ⟨_, rfl⟩
    rw [hE] at HN HY ⊢
    clear hbig hE hl
    go_enter Try.func46, Try.ntmps46
    go_wp2
    go_loop [5] (fun i => ∃ k : Nat, k ≤ l.length ∧ i = .int .i64 k ∧ Hid (∀ v ∈ l.take k, inN most v = true)) (fun i => l.length - (intOf i).toNat)
    case atStart => exact ⟨0, by omega, rfl, Go.Lib.hid fun v hv => by simp at hv⟩
    case round =>
      obtain ⟨k, hk, rfl, HP⟩ := hrel
      by_cases hlt : k < l.length
      · have hli : (k : Int) < (l.length : Int) := by omega
        obtain ⟨g, o, rfl, hg, x1⟩ := hA.int hlt
        have HT : Hid (inN most l[k] = true → ∀ v ∈ l.take (k + 1), inN most v = true) := Go.Lib.hid fun h => take_in HP.out hlt h
        have HN2 := Go.Lib.hid (HN.out k hlt)
        clear hA
        generalize l[k] = v at *
        by_cases h1 : v < 0
        · have hf := HN2.out (by simp [inN]; omega)
          subst hf
          go_wp2
          go_ret
          exact ⟨rfl, rfl⟩
        · by_cases h2 : most < v
          · have hf := HN2.out (by simp [inN]; omega)
            subst hf
            go_wp2
            go_ret
            exact ⟨rfl, rfl⟩
          · have HT2 := Go.Lib.hid (HT.out (by simp [inN]; omega))
            go_wp2
            go_round
            case rel => exact ⟨k + 1, by omega, by go_num, HT2⟩
            case measure => simp [intOf]; omega
      · have hlt' : ¬ ((k : Int) < (l.length : Int)) := by omega
        have hkx : k = l.length := by omega
        have hz := HY.out (by have := HP.out; rw [hkx, List.take_length] at this; exact this)
        subst hz
        go_wp2
        go_ret
        exact ⟨rfl, rfl⟩

set_option maxRecDepth 100000 in
set_option maxHeartbeats 2000000 in
theorem asked_any (B : Nat) (A : Option Addr) (c : Nat) (l : List Int) (w : World) (hA : At B w A (ints l)) (hl : l.length ≤ 1000) :
    Calls Try.prog 31 #[.slice A l.length c] w fun e w' => e = .returned (.int .i64 (askE l)) ∧ w = w' := by
  have HN : Hid (∀ k (hk : k < l.length), (∀ v ∈ l.take k, v = 0) → l[k] ≠ 0 → askE l = l[k]) := Go.Lib.hid fun k hk h1 h => askE_at hk h1 h
  have HY : Hid ((∀ v ∈ l, v = 0) → askE l = 0) := Go.Lib.hid fun h => askE_none h
  obtain ⟨E, hE⟩ : ∃ E, askE l = E := ⟨_, rfl⟩
  rw [hE] at HN HY ⊢
  clear hE
  go_enter Try.func31, Try.ntmps31
  go_wp2
  go_loop [7] (fun i => ∃ k : Nat, k ≤ l.length ∧ i = .int .i64 k ∧ Hid (∀ v ∈ l.take k, v = 0)) (fun i => l.length - (intOf i).toNat)
  case atStart => exact ⟨0, by omega, rfl, Go.Lib.hid fun v hv => by simp at hv⟩
  case round =>
    obtain ⟨k, hk, rfl, HP⟩ := hrel
    by_cases hlt : k < l.length
    · have hli : (k : Int) < (l.length : Int) := by omega
      obtain ⟨g, o, rfl, hg, x1⟩ := hA.int hlt
      have HT : Hid (l[k] = 0 → ∀ v ∈ l.take (k + 1), v = 0) := Go.Lib.hid fun h => take_zero HP.out hlt h
      have HN2 := Go.Lib.hid (HN.out k hlt HP.out)
      clear hA
      generalize l[k] = v at *
      by_cases h1 : v = 0
      · have HT2 := Go.Lib.hid (HT.out h1)
        have h1' : (v != 0) = false := by simpa using h1
        go_wp2
        go_round
        case rel => exact ⟨k + 1, by omega, by go_num, HT2⟩
        case measure => simp [intOf]; omega
      · have hf := HN2.out h1
        subst hf
        have h1' : (E != 0) = true := by simpa using h1
        go_wp2
        go_ret
        exact ⟨rfl, rfl⟩
    · have hlt' : ¬ ((k : Int) < (l.length : Int)) := by omega
      have hkx : k = l.length := by omega
      have hz := HY.out (by have := HP.out; rw [hkx, List.take_length] at this; exact this)
      subst hz
      go_wp2
      go_ret
      exact ⟨rfl, rfl⟩

set_option maxRecDepth 100000 in
set_option maxHeartbeats 2000000 in
theorem first_any (B : Nat) (A : Option Addr) (c : Nat) (l : List Int) (w : World) (hA : At B w A (ints l)) (hl : l.length ≤ 1000) :
    Calls Try.prog 45 #[.slice A l.length c] w fun e w' => e = .returned (.int .i64 (askE l)) ∧ w = w' := by
  have HN : Hid (∀ k (hk : k < l.length), (∀ v ∈ l.take k, v = 0) → l[k] ≠ 0 → askE l = l[k]) := Go.Lib.hid fun k hk h1 h => askE_at hk h1 h
  have HY : Hid ((∀ v ∈ l, v = 0) → askE l = 0) := Go.Lib.hid fun h => askE_none h
  obtain ⟨E, hE⟩ : ∃ E, askE l = E := ⟨_, rfl⟩
  rw [hE] at HN HY ⊢
  clear hE
  go_enter Try.func45, Try.ntmps45
  go_wp2
  go_loop [3] (fun i => ∃ k : Nat, k ≤ l.length ∧ i = .int .i64 k ∧ Hid (∀ v ∈ l.take k, v = 0)) (fun i => l.length - (intOf i).toNat)
  case atStart => exact ⟨0, by omega, rfl, Go.Lib.hid fun v hv => by simp at hv⟩
  case round =>
    obtain ⟨k, hk, rfl, HP⟩ := hrel
    by_cases hlt : k < l.length
    · have hli : (k : Int) < (l.length : Int) := by omega
      obtain ⟨g, o, rfl, hg, x1⟩ := hA.int hlt
      have HT : Hid (l[k] = 0 → ∀ v ∈ l.take (k + 1), v = 0) := Go.Lib.hid fun h => take_zero HP.out hlt h
      have HN2 := Go.Lib.hid (HN.out k hlt HP.out)
      clear hA
      generalize l[k] = v at *
      by_cases h1 : v = 0
      · have HT2 := Go.Lib.hid (HT.out h1)
        have h1' : (v != 0) = false := by simpa using h1
        go_wp2
        go_round
        case rel => exact ⟨k + 1, by omega, by go_num, HT2⟩
        case measure => simp [intOf]; omega
      · have hf := HN2.out h1
        subst hf
        have h1' : (E != 0) = true := by simpa using h1
        go_wp2
        go_ret
        exact ⟨rfl, rfl⟩
    · have hlt' : ¬ ((k : Int) < (l.length : Int)) := by omega
      have hkx : k = l.length := by omega
      have hz := HY.out (by have := HP.out; rw [hkx, List.take_length] at this; exact this)
      subst hz
      go_wp2
      go_ret
      exact ⟨rfl, rfl⟩

theorem number_any (n most : Int) (w : World) : Calls Try.prog 47 #[.int .i64 n, .int .i64 most] w fun e w' => e = .returned (.int .i64 (num1 most n)) ∧ w = w' := by
  by_cases h1 : n < 0
  · rw [show num1 most n = 2 by unfold num1; rw [if_neg]; simp [inN]; omega]
    go_enter Try.func47, Try.ntmps47
    go_wp2
    go_ret
    exact ⟨rfl, rfl⟩
  · by_cases h2 : most < n
    · rw [show num1 most n = 2 by unfold num1; rw [if_neg]; simp [inN]; omega]
      go_enter Try.func47, Try.ntmps47
      go_wp2
      go_ret
      exact ⟨rfl, rfl⟩
    · rw [show num1 most n = 0 by unfold num1; rw [if_pos]; simp [inN]; omega]
      go_enter Try.func47, Try.ntmps47
      go_wp2
      go_ret
      exact ⟨rfl, rfl⟩
end Go.Proofs.Ytjippgflempdmaa
