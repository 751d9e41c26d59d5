/- Layer 3: texts as runes and as pieces, in plain Lean: no program in sight. -/
import Derived.Lib.TrimU
namespace Go.Proofs.YtcfgpmmclijonaaGreatDoor
set_option linter.unusedVariables false
set_option linter.unusedSimpArgs false
set_option maxRecDepth 100000
open Go.Lib

/-! ### runes -/
abbrev By := List UInt8
def wd (l : By) : Nat := (decodeL l).2
def rn (l : By) : Nat := (decodeL l).1
theorem decodeN_wd (n b0 b1 b2 b3 : Nat) (h : 1 ≤ n) : (decodeN n b0 b1 b2 b3).2 ≤ n := by
  unfold decodeN
  repeat' split
  all_goals simp only
  all_goals omega
theorem decodeL_eq (l : By) : decodeL l = decodeN l.length (l.getD 0 0).toNat (l.getD 1 0).toNat (l.getD 2 0).toNat (l.getD 3 0).toNat := by
  unfold decodeL
  rw [decode_at]
  have e : ∀ k, (ByteArray.mk l.toArray).get! k = l.getD k 0 := fun k => by
    show l.toArray[k]! = _
    rw [List.getElem!_toArray, List.getElem!_eq_getElem?_getD, List.getD_eq_getElem?_getD]
    rfl
  simp only [e, Nat.zero_add]
  rfl
theorem wd_pos (l : By) : 1 ≤ wd l := by unfold wd; rw [decodeL_eq]; exact decodeN_ge1 _ _ _ _ _
theorem wd_le (l : By) (h : l ≠ []) : wd l ≤ l.length := by
  unfold wd; rw [decodeL_eq]
  exact decodeN_wd _ _ _ _ _ (by cases l with | nil => exact absurd rfl h | cons a t => simp)
theorem wd_four (l : By) : wd l ≤ 4 := by
  unfold wd; rw [decodeL_eq]; unfold decodeN
  repeat' split
  all_goals simp only
  all_goals omega
theorem rn_le (l : By) : rn l ≤ 1114111 := by
  unfold rn; rw [decodeL_eq]; exact decodeN_rune_le _ _ _ _ _ (UInt8.toNat_lt _)
/-- What the model decodes at place i of s is what stands at the head of what is left. -/
theorem decode_drop (s : ByteArray) (i : Nat) : Utf8.decode s i = decodeL (s.data.toList.drop i) := by
  rw [decode_at, decodeL_eq]
  have e : ∀ k, s.get! k = s.data.toList.getD k 0 := fun k => by
    show s.data[k]! = _
    rw [← Array.getElem!_toList, List.getElem!_eq_getElem?_getD, List.getD_eq_getElem?_getD]
    rfl
  have e2 : ∀ k, (s.data.toList.drop i).getD k 0 = s.data.toList.getD (i + k) 0 := fun k => by
    rw [List.getD_eq_getElem?_getD, List.getD_eq_getElem?_getD, List.getElem?_drop]
  simp only [e, e2, List.length_drop, Nat.add_zero]
  rfl

/-- The runes of a text: of each its width and its number. -/
def rsF : Nat → By → List (Nat × Nat)
  | 0, _ => []
  | _ + 1, [] => []
  | f + 1, b :: t => (wd (b :: t), rn (b :: t)) :: rsF f ((b :: t).drop (wd (b :: t)))
def rs (l : By) : List (Nat × Nat) := rsF l.length l
theorem rsF_fuel : ∀ (f g : Nat) (l : By), l.length ≤ f → l.length ≤ g → rsF f l = rsF g l
  | 0, 0, _, _, _ => rfl
  | 0, g + 1, [], _, _ => rfl
  | 0, g + 1, b :: t, h, _ => absurd h (by simp)
  | f + 1, 0, [], _, _ => rfl
  | f + 1, 0, b :: t, _, h => absurd h (by simp)
  | f + 1, g + 1, [], _, _ => rfl
  | f + 1, g + 1, b :: t, h, h' => by
    have := wd_pos (b :: t)
    unfold rsF
    rw [rsF_fuel f g]
    · rw [List.length_drop]; omega
    · rw [List.length_drop]; omega
theorem rs_nil : rs [] = [] := rfl
theorem rs_cons (l : By) (h : l ≠ []) : rs l = (wd l, rn l) :: rs (l.drop (wd l)) := by
  cases l with
  | nil => exact absurd rfl h
  | cons b t =>
    have := wd_pos (b :: t)
    unfold rs
    show (wd (b :: t), rn (b :: t)) :: rsF t.length _ = _
    rw [rsF_fuel t.length ((b :: t).drop (wd (b :: t))).length _ (by rw [List.length_drop]; simp only [List.length_cons]; omega) (Nat.le_refl _)]
theorem rs_sum : ∀ (n : Nat) (l : By), l.length ≤ n → ((rs l).map (·.1)).sum = l.length
  | 0, [], _ => rfl
  | 0, b :: t, h => absurd h (by simp)
  | n + 1, [], _ => rfl
  | n + 1, b :: t, h => by
    have := wd_pos (b :: t)
    have h2 := wd_le (b :: t) (by simp)
    rw [rs_cons _ (by simp), List.map_cons, List.sum_cons, rs_sum n _ (by rw [List.length_drop]; omega), List.length_drop]
    simp only
    omega

/-! ### kinds of runes -/
def spM : List (Nat × Nat) := [(0x300, 0x36F), (0x483, 0x489), (0x591, 0x5BD), (0x610, 0x61A), (0x64B, 0x65F), (0x200B, 0x200F), (0x202A, 0x202E), (0x2060, 0x2064), (0x20D0, 0x20FF), (0xFE00, 0xFE0F), (0xFE20, 0xFE2F), (0xE0100, 0xE01EF)]
def spB : List (Nat × Nat) := [(0x1100, 0x115F), (0x2E80, 0x303E), (0x3041, 0x33FF), (0x3400, 0x4DBF), (0x4E00, 0x9FFF), (0xA000, 0xA4CF), (0xAC00, 0xD7A3), (0xF900, 0xFAFF), (0xFE30, 0xFE6F), (0xFF00, 0xFF60), (0xFFE0, 0xFFE6), (0x1F300, 0x1F64F), (0x1F900, 0x1F9FF), (0x20000, 0x3FFFD)]
def inSp (L : List (Nat × Nat)) (r : Int) : Bool := L.any fun p => decide ((p.1 : Int) ≤ r) && decide (r ≤ (p.2 : Int))
def isCtl (r : Int) : Bool := (decide (0 ≤ r) && decide (r < 32)) || (decide (127 ≤ r) && decide (r ≤ 159))
def isMark (r : Int) : Bool := inSp spM r
def isWide (r : Int) : Bool := inSp spB r
def okRune (r : Int) : Bool := (decide (0 ≤ r) && decide (r < 55296)) || (decide (57344 ≤ r) && decide (r ≤ 1114111))
/-- Cells of a rune. -/
def wid (r : Int) : Nat := if okRune r then (if isCtl r || isMark r then 0 else if isWide r then 2 else 1) else 1
theorem wid_le (r : Int) : wid r ≤ 2 := by
  unfold wid
  by_cases h1 : okRune r = true
  · by_cases h2 : (isCtl r || isMark r) = true
    · simp [h1, h2]
    · by_cases h3 : isWide r = true <;> simp [h1, h2, h3]
  · simp [h1]
theorem inSp_low {L : List (Nat × Nat)} {a : Nat} (h : ∀ p ∈ L, a ≤ p.1) {r : Int} (hr : r < a) : inSp L r = false := by
  unfold inSp
  rw [List.any_eq_false]
  intro p hp
  have := h p hp
  simp
  omega
theorem isMark_low {r : Int} (h : r < 768) : isMark r = false := inSp_low (a := 768) (by decide) h
theorem isWide_low {r : Int} (h : r < 4352) : isWide r = false := inSp_low (a := 4352) (by decide) h

/-! ### pieces: of each how many bytes, and its first rune -/
def grp : Bool → List (Nat × Nat) → Nat × List (Nat × Nat)
  | _, [] => (0, [])
  | op, (n, r) :: xs =>
    if op && isMark r then (n + (grp op xs).1, (grp op xs).2)
    else (0, (n + (grp (!isCtl r) xs).1, r) :: (grp (!isCtl r) xs).2)
def pcs (l : By) : List (Nat × Nat) := (grp false (rs l)).2
def total (P : List (Nat × Nat)) : Nat := (P.map fun p => wid p.2).sum
/-- The place at which piece k begins. -/
def off (P : List (Nat × Nat)) (k : Nat) : Nat := ((P.take k).map (·.1)).sum
theorem grp_sum : ∀ (xs : List (Nat × Nat)) (op : Bool), (grp op xs).1 + ((grp op xs).2.map (·.1)).sum = (xs.map (·.1)).sum
  | [], _ => rfl
  | (n, r) :: xs, op => by
    unfold grp
    split
    · have := grp_sum xs op
      simp only [List.map_cons, List.sum_cons]
      omega
    · have := grp_sum xs (!isCtl r)
      simp only [List.map_cons, List.sum_cons]
      omega
theorem grp_false (xs : List (Nat × Nat)) : (grp false xs).1 = 0 := by
  cases xs with
  | nil => rfl
  | cons a t => rfl
theorem grp_len : ∀ (xs : List (Nat × Nat)) (op : Bool), (grp op xs).2.length ≤ xs.length
  | [], _ => Nat.le_refl _
  | (n, r) :: xs, op => by
    unfold grp
    split
    · have := grp_len xs op
      simp only [List.length_cons]
      omega
    · have := grp_len xs (!isCtl r)
      simp only [List.length_cons]
      omega
theorem rs_len : ∀ (n : Nat) (l : By), l.length ≤ n → (rs l).length ≤ l.length
  | 0, [], _ => Nat.le_refl _
  | 0, b :: t, h => absurd h (by simp)
  | n + 1, [], _ => Nat.le_refl _
  | n + 1, b :: t, h => by
    have := wd_pos (b :: t)
    have h2 := wd_le (b :: t) (by simp)
    have h3 := rs_len n ((b :: t).drop (wd (b :: t))) (by rw [List.length_drop]; omega)
    rw [rs_cons _ (by simp), List.length_cons]
    rw [List.length_drop] at h3
    omega
theorem pcs_len (l : By) : (pcs l).length ≤ l.length := Nat.le_trans (grp_len _ _) (rs_len _ _ (Nat.le_refl _))
theorem pcs_sum (l : By) : ((pcs l).map (·.1)).sum = l.length := by
  have := grp_sum (rs l) false
  rw [grp_false, rs_sum _ l (Nat.le_refl _)] at this
  unfold pcs
  omega
theorem total_le (P : List (Nat × Nat)) : total P ≤ 2 * P.length := by
  unfold total
  induction P with
  | nil => simp
  | cons a t ih =>
    have := wid_le a.2
    simp only [List.map_cons, List.sum_cons, List.length_cons]
    omega
end Go.Proofs.YtcfgpmmclijonaaGreatDoor
