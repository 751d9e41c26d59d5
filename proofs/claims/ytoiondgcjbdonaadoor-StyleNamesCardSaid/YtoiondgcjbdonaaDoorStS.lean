/- Layer 5: in plain Lean: which rule tells a thing, what all rules together look like; peeled one by one. -/
import Derived.Test.YtoiondgcjbdonaaDoorStR
import Derived.Test.YtoiondgcjbdonaaDoorStO
namespace Go.Proofs.YtoiondgcjbdonaaDoor
set_option linter.unusedVariables false
set_option linter.unusedSimpArgs false
set_option maxRecDepth 100000
open Go.RowKit Go.Lib Go.Sort

/-! ### The last one of a list that .. -/
def whichL (P : Nat → Bool) (o : List Nat) (a : Int) : Int := o.foldl (fun a i => if P i then (i : Int) else a) a
theorem whichL_nil (P : Nat → Bool) (a : Int) : whichL P [] a = a := rfl
theorem whichL_cons (P : Nat → Bool) (i : Nat) (o : List Nat) (a : Int) : whichL P (i :: o) a = whichL P o (if P i then (i : Int) else a) := rfl
theorem whichL_snoc (P : Nat → Bool) (i : Nat) (o : List Nat) (a : Int) : whichL P (o ++ [i]) a = if P i then (i : Int) else whichL P o a := by
  unfold whichL; rw [List.foldl_append]; rfl
theorem whichL_start (P : Nat → Bool) (o : List Nat) (a : Int) : whichL P o a = if whichL P o (-1) = -1 then a else whichL P o (-1) := by
  induction o generalizing a with
  | nil => simp [whichL]
  | cons i o ih =>
    rw [whichL_cons, whichL_cons]
    by_cases h : P i = true
    · rw [if_pos h, if_pos h]
      have := ih (i : Int)
      rw [this]
      split
      · rw [if_neg (by omega)]
      · next g => first | rfl | rw [if_neg g]
    · rw [if_neg h, if_neg h]
      exact ih a
theorem whichL_ge (P : Nat → Bool) (o : List Nat) : -1 ≤ whichL P o (-1) := by
  have : ∀ (o : List Nat) (a : Int), -1 ≤ a → -1 ≤ whichL P o a := by
    intro o
    induction o with
    | nil => exact fun a h => h
    | cons i o ih =>
      intro a h
      rw [whichL_cons]
      apply ih
      split <;> omega
  exact this o _ (by omega)
theorem whichL_none {P : Nat → Bool} {o : List Nat} (h : ∀ i ∈ o, P i = false) (a : Int) : whichL P o a = a := by
  induction o generalizing a with
  | nil => rfl
  | cons i o ih =>
    rw [whichL_cons, if_neg (by rw [h i (by simp)]; simp)]
    exact ih (fun j hj => h j (by simp [hj])) a
theorem whichL_mem {P : Nat → Bool} {o : List Nat} (h : whichL P o (-1) ≠ -1) : ∃ i ∈ o, P i = true ∧ whichL P o (-1) = (i : Int) := by
  induction o with
  | nil => exact absurd rfl h
  | cons i o ih =>
    rw [whichL_cons] at h ⊢
    by_cases hp : P i = true
    · rw [if_pos hp] at h ⊢
      rw [whichL_start] at h ⊢
      split at h
      · next g => rw [if_pos g]; exact ⟨i, by simp, hp, rfl⟩
      · next g =>
        rw [if_neg g]
        obtain ⟨j, h1, h2, h3⟩ := ih g
        exact ⟨j, by simp [h1], h2, h3⟩
    · rw [if_neg hp] at h ⊢
      obtain ⟨j, h1, h2, h3⟩ := ih h
      exact ⟨j, by simp [h1], h2, h3⟩
/-- The last place that does, with none behind it. -/
theorem whichL_at {P : Nat → Bool} {o : List Nat} {k : Nat} (hk : k < o.length) (hp : P o[k] = true) (h : ∀ i ∈ o.drop (k + 1), P i = false) : whichL P o (-1) = (o[k] : Int) := by
  have e : o = o.take k ++ o[k] :: o.drop (k + 1) := by rw [List.getElem_cons_drop, List.take_append_drop]
  generalize o[k] = x at *
  rw [e]
  unfold whichL
  rw [List.foldl_append, List.foldl_cons, if_pos hp]
  exact whichL_none h _
theorem whichL_congr {P P' : Nat → Bool} {o : List Nat} (h : ∀ i ∈ o, P i = P' i) (a : Int) : whichL P o a = whichL P' o a := by
  induction o generalizing a with
  | nil => rfl
  | cons i o ih =>
    rw [whichL_cons, whichL_cons, h i (by simp)]
    exact ih (fun j hj => h j (by simp [hj])) _

/-! ### The look of all -/
/-- What lies at a place, or nothing. -/
def lookAt (f : Nat → Lk) (n : Int) : Lk := if n < 0 then Lk.none else f n.toNat
/-- The four things, each from the rule that tells it. -/
def four (f : Nat → Lk) (n0 n1 n2 n3 : Int) : Lk := mk4 (decide (0 ≤ n0)) (decide (0 ≤ n1)) (decide (0 ≤ n2)) (decide (0 ≤ n3)) (lookAt f n0).col (lookAt f n1).bak (lookAt f n2).brd (lookAt f n3).pad
def tells (f : Nat → Lk) (h : Nat → Bool) (b : Nat) (i : Nat) : Bool := h i && (f i).has.testBit b
def lookL (f : Nat → Lk) (h : Nat → Bool) (o : List Nat) : Lk := four f (whichL (tells f h 0) o (-1)) (whichL (tells f h 1) o (-1)) (whichL (tells f h 2) o (-1)) (whichL (tells f h 3) o (-1))
/-- The stronger ones last, each over those before. -/
def foldO (f : Nat → Lk) (h : Nat → Bool) (o : List Nat) (z : Lk) : Lk := o.foldr (fun i out => if h i then underL out (f i) else out) z
theorem foldO_nil (f : Nat → Lk) (h : Nat → Bool) (z : Lk) : foldO f h [] z = z := rfl
theorem foldO_cons (f : Nat → Lk) (h : Nat → Bool) (i : Nat) (o : List Nat) (z : Lk) : foldO f h (i :: o) z = if h i then underL (foldO f h o z) (f i) else foldO f h o z := rfl
theorem foldO_snoc (f : Nat → Lk) (h : Nat → Bool) (i : Nat) (o : List Nat) (z : Lk) : foldO f h (o ++ [i]) z = foldO f h o (if h i then underL z (f i) else z) := by
  unfold foldO; rw [List.foldr_append]; rfl
theorem foldO_lt {f : Nat → Lk} {h : Nat → Bool} {o : List Nat} {z : Lk} (hz : z.has < 16) : (foldO f h o z).has < 16 := by
  induction o with
  | nil => exact hz
  | cons i o ih =>
    rw [foldO_cons]
    split
    · exact under_lt _ _
    · exact ih
/-- One field: told by a stronger rule, or by this one. -/
theorem pick_cons (P : Nat → Bool) (i : Nat) (o : List Nat) : whichL P (i :: o) (-1) = if 0 ≤ whichL P o (-1) then whichL P o (-1) else if P i then (i : Int) else -1 := by
  have hge := whichL_ge P o
  rw [whichL_cons, whichL_start]
  by_cases h : whichL P o (-1) = -1
  · simp [h]
  · rw [if_neg h, if_pos (by omega)]
theorem foldO_look {f : Nat → Lk} {h : Nat → Bool} {o : List Nat} (hf : ∀ i ∈ o, (f i).has < 256) : foldO f h o Lk.none = lookL f h o := by
  induction o with
  | nil => rfl
  | cons i o ih =>
    rw [foldO_cons, ih (fun j hj => hf j (by simp [hj]))]
    have hfi := hf i (by simp)
    unfold lookL
    rw [pick_cons, pick_cons, pick_cons, pick_cons]
    generalize whichL (tells f h 0) o (-1) = n0
    generalize whichL (tells f h 1) o (-1) = n1
    generalize whichL (tells f h 2) o (-1) = n2
    generalize whichL (tells f h 3) o (-1) = n3
    unfold tells
    by_cases hh : h i = true
    · rw [if_pos hh, hh]
      simp only [Bool.true_and]
      unfold four
      rw [under_norm (by rw [mk4_has]; have := nib_lt (decide (0 ≤ n0)) (decide (0 ≤ n1)) (decide (0 ≤ n2)) (decide (0 ≤ n3)); omega) hfi, norm_mk]
      unfold Lk.norm
      rw [under_mk]
      have A : ∀ (n : Int) (b : Bool) {α : Type} (g : Lk → α), ((decide (0 ≤ n) || b) = decide (0 ≤ (if 0 ≤ n then n else if b = true then (i : Int) else -1))) ∧
          ((if (decide (0 ≤ n) || b) then (if decide (0 ≤ n) then g (lookAt f n) else g (f i)) else g Lk.none) = (if decide (0 ≤ (if 0 ≤ n then n else if b = true then (i : Int) else -1)) then g (lookAt f (if 0 ≤ n then n else if b = true then (i : Int) else -1)) else g Lk.none)) := by
        intro n b α g
        by_cases hn : 0 ≤ n
        · simp [hn]
        · cases b
          · simp [hn]
          · have h0 : ¬ ((i : Int) < 0) := by omega
            simp [hn, lookAt, h0]
      unfold mk4
      rw [(A n0 _ Lk.col).1, (A n1 _ Lk.bak).1, (A n2 _ Lk.brd).1, (A n3 _ Lk.pad).1]
      congr 1
      · have := (A n0 ((f i).has.testBit 0) Lk.col).2; rw [(A n0 ((f i).has.testBit 0) Lk.col).1] at this; exact this
      · have := (A n1 ((f i).has.testBit 1) Lk.bak).2; rw [(A n1 ((f i).has.testBit 1) Lk.bak).1] at this; exact this
      · have := (A n2 ((f i).has.testBit 2) Lk.brd).2; rw [(A n2 ((f i).has.testBit 2) Lk.brd).1] at this; exact this
      · have := (A n3 ((f i).has.testBit 3) Lk.pad).2; rw [(A n3 ((f i).has.testBit 3) Lk.pad).1] at this; exact this
    · have hh' : h i = false := by simpa using hh
      rw [if_neg hh, hh']
      simp only [Bool.false_and, Bool.false_eq_true, if_false]
      unfold four
      have B : ∀ n : Int, decide (0 ≤ (if 0 ≤ n then n else -1)) = decide (0 ≤ n) := by
        intro n; by_cases hn : 0 ≤ n <;> simp [hn]
      have C : ∀ (n : Int) {α : Type} (g : Lk → α) (z : α), (if decide (0 ≤ n) then g (lookAt f (if 0 ≤ n then n else -1)) else z) = if decide (0 ≤ n) then g (lookAt f n) else z := by
        intro n α g z; by_cases hn : 0 ≤ n <;> simp [hn]
      unfold mk4
      rw [B, B, B, B]
      congr 1
      · exact (C n0 Lk.col _).symm
      · exact (C n1 Lk.bak _).symm
      · exact (C n2 Lk.brd _).symm
      · exact (C n3 Lk.pad _).symm
/-- What lies over all the others may be put over them last. -/
theorem foldO_over {f : Nat → Lk} {h : Nat → Bool} {o : List Nat} {z : Lk} (hf : ∀ i ∈ o, (f i).has < 256) (hz : z.has ≤ 15) (hn : z.norm = z) : foldO f h o z = underL z (foldO f h o Lk.none) := by
  induction o with
  | nil =>
    rw [foldO_nil, foldO_nil, under_none (by omega), hn]
  | cons i o ih =>
    rw [foldO_cons, foldO_cons, ih (fun j hj => hf j (by simp [hj]))]
    have h1 := foldO_lt (f := f) (h := h) (o := o) (z := Lk.none) (by decide)
    split
    · exact under_assoc (by omega) (by omega) (hf i (by simp))
    · rfl
theorem foldO_full {f : Nat → Lk} {h : Nat → Bool} {o : List Nat} {z : Lk} (hf : ∀ i ∈ o, (f i).has < 256) (hz : z.has = 15) : foldO f h o z = z := by
  induction o with
  | nil => rfl
  | cons i o ih =>
    rw [foldO_cons, ih (fun j hj => hf j (by simp [hj]))]
    split
    · exact full_under hz (hf i (by simp))
    · rfl
theorem foldO_map {f f' : Nat → Lk} {h h' : Nat → Bool} {o : List Nat} (s : Nat → Nat) (hf : ∀ i ∈ o, f' (s i) = f i) (hh : ∀ i ∈ o, h' (s i) = h i) (z : Lk) : foldO f' h' (o.map s) z = foldO f h o z := by
  induction o with
  | nil => rfl
  | cons i o ih =>
    rw [List.map_cons, foldO_cons, foldO_cons, hf i (by simp), hh i (by simp), ih (fun j hj => hf j (by simp [hj])) (fun j hj => hh j (by simp [hj]))]

/-! ### One rule taken off -/
/-- Where a number stands when the number a has been taken off. -/
def sh (a i : Nat) : Nat := if i < a then i else i - 1
def unsh (a i : Nat) : Nat := if i < a then i else i + 1
theorem ordL_drop {key : Nat → Nat} {n : Nat} (hn : 0 < n) {a : Nat} (ha : ordL key n = (ordL key n).dropLast ++ [a]) :
    ordL (fun i => key (unsh a i)) (n - 1) = (ordL key n).dropLast.map (sh a) := by
  have hl := ordL_len key n
  have hld : (ordL key n).dropLast.length = n - 1 := by rw [List.length_dropLast, hl]
  have hnd : (ordL key n).Nodup := (List.mergeSort_perm (List.range n) (ordLe key)).nodup_iff.2 List.nodup_range
  have hin : ∀ x, x ∈ (ordL key n).dropLast ↔ x < n ∧ x ≠ a := by
    intro x
    have h1 := ordL_mem key n x
    rw [ha] at h1 hnd
    rw [List.nodup_append] at hnd
    constructor
    · intro hx
      exact ⟨h1.1 (by simp [hx]), fun e => (hnd.2.2 x hx a (by simp)) e⟩
    · rintro ⟨hx, hne⟩
      have := h1.2 hx
      simp only [List.mem_append, List.mem_singleton] at this
      rcases this with h | h
      · exact h
      · exact absurd h hne
  have hget : ∀ i (hi : i < n - 1), (ordL key n).dropLast[i]'(by omega) = (ordL key n)[i]'(by omega) := fun i hi => List.getElem_dropLast _
  have han : a < n := by
    have := ordL_mem key n a
    rw [ha] at this
    exact this.1 (by simp)
  symm
  apply ordL_of
  · refine ⟨fun i j _ hij hj => ?_, fun x => ?_⟩
    · have hi' : i < n - 1 := by omega
      rw [getElem!_pos _ i (by simp [hld]; omega), getElem!_pos _ j (by simp [hld]; omega)]
      simp only [List.getElem_toArray, List.getElem_map]
      have hs := ordL_srt key hij (show j < n by omega)
      have m1 := (hin _).1 (List.getElem_mem (l := (ordL key n).dropLast) (n := i) (by omega))
      have m2 := (hin _).1 (List.getElem_mem (l := (ordL key n).dropLast) (n := j) (by omega))
      rw [hget i hi'] at m1 ⊢
      rw [hget j hj] at m2 ⊢
      generalize (ordL key n)[i]'(by omega) = p at *
      generalize (ordL key n)[j]'(by omega) = q at *
      have u1 : unsh a (sh a p) = p := by unfold unsh sh; split <;> (try split) <;> omega
      have u2 : unsh a (sh a q) = q := by unfold unsh sh; split <;> (try split) <;> omega
      unfold Rk at hs ⊢
      simp only [u1, u2]
      have e : (sh a p < sh a q) ↔ p < q := by unfold sh; split <;> split <;> omega
      rw [e]
      exact hs
    · constructor
      · rintro ⟨i, _, hi, rfl⟩
        rw [getElem!_pos _ i (by simp [hld]; omega)]
        simp only [List.getElem_toArray, List.getElem_map]
        have m1 := (hin _).1 (List.getElem_mem (l := (ordL key n).dropLast) (n := i) (by omega))
        generalize (ordL key n).dropLast[i]'(by omega) = p at *
        unfold sh
        split <;> omega
      · intro hx
        have hm : unsh a x ∈ (ordL key n).dropLast := (hin _).2 (by unfold unsh; split <;> omega)
        obtain ⟨i, hi, he⟩ := List.mem_iff_getElem.1 hm
        refine ⟨i, Nat.zero_le _, by omega, ?_⟩
        rw [getElem!_pos _ i (by simp; omega)]
        simp only [List.getElem_toArray, List.getElem_map]
        rw [he]
        unfold sh unsh
        split <;> (try split) <;> omega
  · simp [hl]
end Go.Proofs.YtoiondgcjbdonaaDoor
