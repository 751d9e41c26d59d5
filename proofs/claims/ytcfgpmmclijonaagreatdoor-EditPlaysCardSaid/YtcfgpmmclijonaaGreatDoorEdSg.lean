/- Layer 25: plain: seams of a text, line ends. -/
import Derived.Test.YtcfgpmmclijonaaGreatDoorEdAb
import Derived.Test.YtcfgpmmclijonaaGreatDoorRuDec
import Derived.Test.YtcfgpmmclijonaaGreatDoorRuW2
import Derived.Deep.LoopGhost
namespace Go.Proofs.YtcfgpmmclijonaaGreatDoor
set_option linter.unusedVariables false
set_option linter.unusedSimpArgs false
set_option maxRecDepth 100000
open Go.Lib
set_option maxRecDepth 100000

theorem dec_before (l : By) (hne : l ≠ []) (b : UInt8) (hb : b.toNat < 128) (v : By) : decodeL (l ++ b :: v) = decodeL l := by
  by_cases hk : Brk l
  · false_or_by_contra
    rename_i hc
    unfold Brk at hk
    rw [hk] at hc
    have hnb : ¬ Brk (l ++ b :: v) := hc
    have hne2 : l ++ b :: v ≠ [] := by simp
    by_cases hlen : wd (l ++ b :: v) ≤ l.length
    · have := dec_pre hne2 hnb (l.drop (wd (l ++ b :: v)))
      rw [List.take_append_of_le_length hlen, List.take_append_drop] at this
      rw [← this, hk] at hc
      exact hc rfl
    · have := dec_cont hnb (i := l.length) (by have := List.length_pos_iff.2 hne; omega) (by omega)
      rw [List.getD_eq_getElem?_getD, List.getElem?_append_right (Nat.le_refl _)] at this
      simp at this
      omega
  · have := dec_pre hne hk (l.drop (wd l) ++ b :: v)
    rw [← List.append_assoc, List.take_append_drop] at this
    exact this
theorem rs_ascii (b : UInt8) (hb : b.toNat < 128) (v : By) : ∀ (n : Nat) (u : By), u.length ≤ n → rs (u ++ b :: v) = rs u ++ (1, b.toNat) :: rs v
  | n, [], _ => by
    have h := ascii_dec v hb
    have e1 : rn (b :: v) = b.toNat := by unfold rn; rw [h]
    have e2 : wd (b :: v) = 1 := by unfold wd; rw [h]
    rw [List.nil_append, rs_nil, List.nil_append, rs_cons _ (by simp), e1, e2]
    rfl
  | 0, a :: u, h => absurd h (by simp)
  | n + 1, a :: u, h => by
    obtain ⟨l, hl⟩ : ∃ l, a :: u = l := ⟨_, rfl⟩
    have hne : l ≠ [] := by rw [← hl]; simp
    rw [hl] at h ⊢
    have hw := wd_pos l
    have hwl := wd_le l hne
    have hd := dec_before l hne b hb v
    have e1 : rn (l ++ b :: v) = rn l := by unfold rn; rw [hd]
    have e2 : wd (l ++ b :: v) = wd l := by unfold wd; rw [hd]
    rw [rs_cons (l ++ b :: v) (by simp), rs_cons l hne, e1, e2, List.drop_append_of_le_length hwl, rs_ascii b hb v n (l.drop (wd l)) (by rw [List.length_drop]; omega), List.cons_append]
theorem grp_nl (ys : List (Nat × Nat)) : ∀ (xs : List (Nat × Nat)) (op : Bool), grp op (xs ++ (1, 10) :: ys) = ((grp op xs).1, (grp op xs).2 ++ (1, 10) :: (grp false ys).2)
  | [], op => by
    have h1 : isMark ((10 : Nat) : Int) = false := by decide
    have h2 : isCtl ((10 : Nat) : Int) = true := by decide
    have h3 := grp_false ys
    simp only [List.nil_append, grp, h1, Bool.and_false, if_false, h2, Bool.not_true, Bool.false_eq_true, h3, Nat.add_zero]
  | (n, r) :: xs, op => by
    rw [List.cons_append]
    by_cases h : (op && isMark (r : Int)) = true
    · rw [grp, grp, if_pos h, if_pos h, grp_nl ys xs op]
    · rw [grp, grp, if_neg h, if_neg h, grp_nl ys xs _]
      rfl
theorem pcs_nl (u v : By) : pcs (u ++ 10 :: v) = pcs u ++ (1, 10) :: pcs v := by
  unfold pcs
  rw [rs_ascii 10 (by decide) v u.length u (Nat.le_refl _)]
  exact congrArg Prod.snd (grp_nl (rs v) (rs u) false)

/-- A seam: a place where a piece begins, or the end. -/
def Seam (l : By) (a : Nat) : Prop := ∃ k, k ≤ (pcs l).length ∧ a = off (pcs l) k
theorem off_full (l : By) : off (pcs l) (pcs l).length = l.length := by
  rw [off_all]
  exact pcs_sum l
theorem Seam.le {l : By} {a : Nat} (h : Seam l a) : a ≤ l.length := by
  obtain ⟨k, _, rfl⟩ := h
  exact off_end l k
theorem Seam.zero (l : By) : Seam l 0 := ⟨0, Nat.zero_le _, (off_zero _).symm⟩
theorem Seam.last (l : By) : Seam l l.length := ⟨_, Nat.le_refl _, (off_full l).symm⟩
theorem Seam.pre {l : By} {a : Nat} (h : Seam l a) (h0 : 0 < a) : ∃ i, i < (pcs l).length ∧ a = off (pcs l) (i + 1) ∧ off (pcs l) i < a := by
  obtain ⟨k, hk, rfl⟩ := h
  cases k with
  | zero => rw [off_zero] at h0; omega
  | succ i => exact ⟨i, hk, rfl, off_strict (pcs_pos l) hk⟩
theorem Seam.post {l : By} {a : Nat} (h : Seam l a) (h0 : a < l.length) : ∃ i, i < (pcs l).length ∧ a = off (pcs l) i ∧ a < off (pcs l) (i + 1) := by
  obtain ⟨k, hk, rfl⟩ := h
  have hlt : k < (pcs l).length := by
    false_or_by_contra
    have : k = (pcs l).length := by omega
    subst this
    rw [off_full] at h0
    omega
  exact ⟨k, hlt, rfl, off_strict (pcs_pos l) hlt⟩
theorem Seam.same {l : By} {a : Nat} (h : Seam l a) : settledE l a = a := by
  by_cases h0 : a = 0
  · subst h0
    exact settled_zero l
  · obtain ⟨i, hi, e, h1⟩ := h.pre (by omega)
    unfold settledE
    rw [hix_at hi (by omega) (by omega), e]
theorem Seam.seamE {l : By} {a : Nat} (h : Seam l a) : seamE l (a : Int) = true := by
  have := seam_settled (l := l) h.le
  rw [h.same] at this
  exact this
theorem Seam.settled {l : By} {a : Nat} (h : a ≤ l.length) : Seam l (settledE l a) := by
  by_cases h0 : a = 0
  · subst h0
    rw [settled_zero]
    exact Seam.zero l
  · obtain ⟨i, hi, _, e, _, _⟩ := settled_at (by omega) h
    exact ⟨i + 1, hi, e⟩
theorem Seam.left {l : By} {a : Nat} (h : Seam l a) : Seam l (leftE l a) := by
  unfold leftE
  by_cases h0 : a = 0
  · subst h0
    rw [show ((0 : Nat) : Int) = 0 from rfl, back_zero]
    exact h
  · obtain ⟨i, hi, e, h1⟩ := h.pre (by omega)
    unfold backE
    rw [hix_at hi (by omega) (by omega)]
    exact ⟨i, Nat.le_of_lt hi, rfl⟩
theorem Seam.nl {l : By} {i : Nat} (h : l[i]? = some 10) : Seam l i ∧ Seam l (i + 1) := by
  obtain ⟨hi, he⟩ := List.getElem?_eq_some_iff.1 h
  have hl : l = l.take i ++ 10 :: l.drop (i + 1) := by
    rw [← he, List.getElem_cons_drop, List.take_append_drop]
  have hp : pcs l = pcs (l.take i) ++ (1, 10) :: pcs (l.drop (i + 1)) := by
    conv => lhs; rw [hl]
    exact pcs_nl _ _
  have hs := off_full (l.take i)
  rw [List.length_take, Nat.min_eq_left (by omega)] at hs
  generalize pcs (l.take i) = A at *
  generalize pcs (l.drop (i + 1)) = B at *
  have h1 : off (pcs l) A.length = i := by rw [hp, off_append _ _ _ (Nat.le_refl _), hs]
  have h3 : A.length < (pcs l).length := by rw [hp, List.length_append, List.length_cons]; omega
  have h2 : off (pcs l) (A.length + 1) = i + 1 := by
    rw [off_succ _ _ h3, h1]
    congr 1
    simp only [hp, List.getElem_append_right (Nat.le_refl _), Nat.sub_self, List.getElem_cons_zero]
  exact ⟨⟨A.length, by omega, h1.symm⟩, ⟨A.length + 1, by omega, h2.symm⟩⟩
theorem Seam.min {l : By} {a b : Nat} (h : Seam l a) (h' : Seam l b) : Seam l (min a b) := by
  rcases Nat.le_total a b with q | q
  · rw [Nat.min_eq_left q]; exact h
  · rw [Nat.min_eq_right q]; exact h'
theorem Seam.max {l : By} {a b : Nat} (h : Seam l a) (h' : Seam l b) : Seam l (max a b) := by
  rcases Nat.le_total a b with q | q
  · rw [Nat.max_eq_right q]; exact h'
  · rw [Nat.max_eq_left q]; exact h
theorem Seam.next {l : By} {a : Nat} (h : Seam l a) (h0 : a < l.length) : ∃ n, nextE (pcs l) (a : Int) = (n, true) ∧ Seam l n ∧ a < n := by
  obtain ⟨i, hi, e, h1⟩ := h.post h0
  refine ⟨off (pcs l) (i + 1), ?_, ⟨i + 1, hi, rfl⟩, h1⟩
  unfold nextE
  rw [hix_at hi (by omega) (by omega)]
theorem next_off {l : By} {k : Nat} (hk : k < (pcs l).length) : nextE (pcs l) (off (pcs l) k : Int) = (off (pcs l) (k + 1), true) := by
  have := off_strict (pcs_pos l) hk
  unfold nextE
  rw [hix_at hk (by omega) (by omega)]
theorem next_last (l : By) : nextE (pcs l) (l.length : Int) = (0, false) := by
  unfold nextE
  rw [hix_high (by have := pcs_sum l; unfold sumw; omega)]
theorem Seam.word {l : By} {a : Nat} (h : Seam l a) (h0 : a < l.length) : ∃ n, wordE kd (pcs l) (a : Int) = (n, true) ∧ Seam l n ∧ a < n := by
  obtain ⟨i, hi, e, h1⟩ := h.post h0
  have hw := wend_lt (kf := kd) (P := pcs l) (pcs l).length i hi
  refine ⟨off (pcs l) (wend kd (pcs l) (pcs l).length i + 1), ?_, ⟨_, hw, rfl⟩, ?_⟩
  · unfold wordE
    rw [hix_at hi (by omega) (by omega)]
  · have hge : i ≤ wend kd (pcs l) (pcs l).length i := by
      have key : ∀ (f i : Nat), i ≤ wend kd (pcs l) f i := by
        intro f
        induction f with
        | zero => intro i; exact Nat.le_refl _
        | succ f ih =>
          intro i
          unfold wend
          split
          · split
            · have := ih (i + 1); omega
            · exact Nat.le_refl _
          · exact Nat.le_refl _
      exact key _ _
    have := off_mono (pcs l) (show i + 1 ≤ wend kd (pcs l) (pcs l).length i + 1 by omega)
    omega
theorem word_last (l : By) : wordE kd (pcs l) (l.length : Int) = (0, false) := by
  unfold wordE
  rw [hix_high (by have := pcs_sum l; unfold sumw; omega)]

theorem off_cut (P : List (Nat × Nat)) (i k : Nat) (h : i + k ≤ P.length) : off P (i + k) = off P i + off (P.drop i) k := by
  unfold off
  rw [List.take_add, List.map_append, List.sum_append]
theorem toC_cut (P : List (Nat × Nat)) (i k : Nat) (h : i + k ≤ P.length) : toC P (i + k) = toC P i + toC (P.drop i) k := by
  unfold toC total
  rw [List.take_add, List.map_append, List.sum_append]

/-! ### lines -/
def LineA (l : By) (a A : Nat) : Prop := A ≤ a ∧ (A = 0 ∨ (0 < A ∧ l[A - 1]? = some 10)) ∧ ∀ i, A ≤ i → i < a → l[i]? ≠ some 10
def LineB (l : By) (a B : Nat) : Prop := a ≤ B ∧ B ≤ l.length ∧ (B = l.length ∨ l[B]? = some 10) ∧ ∀ i, a ≤ i → i < B → l[i]? ≠ some 10
theorem LineA.seam {l : By} {a A : Nat} (h : LineA l a A) : Seam l A := by
  rcases h.2.1 with rfl | ⟨h0, h1⟩
  · exact Seam.zero l
  · have := (Seam.nl h1).2
    rwa [show A - 1 + 1 = A by omega] at this
theorem LineB.seam {l : By} {a B : Nat} (h : LineB l a B) : Seam l B := by
  rcases h.2.2.1 with rfl | h1
  · exact Seam.last l
  · exact (Seam.nl h1).1
theorem ib_spec : ∀ (l : List UInt8) (c : UInt8), (Lib.indexByte l c = -1 ∧ ∀ i : Nat, l[i]? ≠ some c) ∨ ∃ n : Nat, Lib.indexByte l c = (n : Int) ∧ l[n]? = some c ∧ ∀ i : Nat, i < n → l[i]? ≠ some c
  | [], c => .inl ⟨rfl, fun i => by simp⟩
  | b :: t, c => by
    by_cases hb : b = c
    · subst hb
      exact .inr ⟨0, by unfold Lib.indexByte; simp, by simp, fun i hi => by omega⟩
    · have hc : (b == c) = false := beq_eq_false_iff_ne.2 hb
      rcases ib_spec t c with ⟨h1, h2⟩ | ⟨n, h1, h2, h3⟩
      · refine .inl ⟨by unfold Lib.indexByte; simp [hb, h1], fun i => ?_⟩
        cases i with
        | zero => simpa using hb
        | succ i => simpa using h2 i
      · refine .inr ⟨n + 1, ?_, by simpa using h2, fun i hi => ?_⟩
        · unfold Lib.indexByte
          simp [hb, h1]
        · cases i with
          | zero => simpa using hb
          | succ i => simpa using h3 i (by omega)
theorem lineB_nat (s : ByteArray) {a : Nat} (ha : a ≤ s.size) : ∃ B : Nat, lineB s a = (B : Int) ∧ LineB s.data.toList a B := by
  have hx : (s.extract a s.size).data.toList = s.data.toList.drop a := by rw [ba_drop]
  have hl := ba_len s
  unfold lineB
  rw [hx]
  rcases ib_spec (s.data.toList.drop a) 10 with ⟨h1, h2⟩ | ⟨n, h1, h2, h3⟩
  · rw [h1, if_neg (by omega)]
    refine ⟨s.size, rfl, ha, by omega, .inl hl.symm, fun i h3 h4 => ?_⟩
    have := h2 (i - a)
    rwa [List.getElem?_drop, show a + (i - a) = i by omega] at this
  · rw [h1, if_pos (by omega)]
    rw [List.getElem?_drop] at h2
    obtain ⟨hlt, _⟩ := List.getElem?_eq_some_iff.1 h2
    refine ⟨a + n, by omega, by omega, by omega, .inr h2, fun i h4 h5 => ?_⟩
    have := h3 (i - a) (by omega)
    rwa [List.getElem?_drop, show a + (i - a) = i by omega] at this
theorem at_bang (s : ByteArray) {j : Nat} (hj : j < s.size) : s.data.toList[j]? = some (s.data[j]!) := by
  have hl := ba_len s
  rw [List.getElem?_eq_getElem (by omega), Array.getElem_toList, getElem!_pos s.data j hj]
theorem lineA_nat (s : ByteArray) {a : Nat} (ha : a ≤ s.size) : ∃ A : Nat, lineA s a = (A : Int) ∧ LineA s.data.toList a A := by
  have hz : (s.extract 0 a).size = a := by rw [ByteArray.size_extract]; omega
  have hx : ∀ j, j < a → s.data.toList[j]? = some ((s.extract 0 a).data[j]!) := fun j hj => by
    have h1 := at_bang (s.extract 0 a) (j := j) (by omega)
    rw [ba_take] at h1
    simp only [List.getElem?_take, if_pos hj] at h1
    rw [h1, ba_take]
  have hn : ∀ j, j < a → (((s.extract 0 a).data[j]!).toNat : Int) ≠ 10 → s.data.toList[j]? ≠ some 10 := fun j hj h e => by
    rw [hx j hj] at e
    injection e with e
    rw [e] at h
    exact h rfl
  unfold lineA
  rcases Lib.lastIndexByte_spec (s.extract 0 a) 10 with ⟨h1, h2⟩ | ⟨i, hi, h1, h2, h3⟩
  · rw [h1]
    exact ⟨0, rfl, Nat.zero_le _, .inl rfl, fun i _ h4 => hn i h4 (h2 i (by omega))⟩
  · rw [h1]
    rw [hz] at hi
    refine ⟨i + 1, rfl, hi, .inr ⟨by omega, ?_⟩, fun j h4 h5 => hn j h5 (h3 j (by omega) (by omega))⟩
    rw [Nat.add_sub_cancel, hx i hi]
    congr 1
    have h4 : ((s.extract 0 a).data[i]!).toNat = 10 := by omega
    exact UInt8.toNat_inj.1 h4

/-! ### where keys lead -/
def rightE (l : By) (a : Nat) : Nat := if (nextE (pcs l) (a : Int)).2 then (nextE (pcs l) (a : Int)).1 else a
def rwordE (l : By) (a : Nat) : Nat := if (wordE kd (pcs l) (a : Int)).2 then (wordE kd (pcs l) (a : Int)).1 else a
theorem Seam.right {l : By} {a : Nat} (h : Seam l a) : Seam l (rightE l a) := by
  unfold rightE
  by_cases h0 : a = l.length
  · subst h0
    rw [next_last]
    exact h
  · obtain ⟨n, e, h1, _⟩ := h.next (by have := h.le; omega)
    rw [e]
    exact h1
theorem Seam.rword {l : By} {a : Nat} (h : Seam l a) : Seam l (rwordE l a) := by
  unfold rwordE
  by_cases h0 : a = l.length
  · subst h0
    rw [word_last]
    exact h
  · obtain ⟨n, e, h1, _⟩ := h.word (by have := h.le; omega)
    rw [e]
    exact h1
/-- The beginning of the last row that begins ahead of a place. -/
def lrowF (l : By) (a : Nat) : Nat → Nat → Nat → Nat
  | 0, _, t0 => t0
  | f + 1, k, t0 => if k < a then lrowF l a f (wordE kd (pcs l) (k : Int)).1 k else t0
def lrowE (l : By) (a : Nat) : Nat := lrowF l a (a + 1) 0 0
theorem lrowF_seam {l : By} {a : Nat} (ha : a ≤ l.length) : ∀ (f k t0 : Nat), Seam l k → Seam l t0 → Seam l (lrowF l a f k t0)
  | 0, _, _, _, h => h
  | f + 1, k, t0, hk, ht => by
    unfold lrowF
    split
    · rename_i h
      obtain ⟨n, e, h1, _⟩ := hk.word (by omega)
      rw [e]
      exact lrowF_seam ha f n k h1 hk
    · exact ht
theorem Seam.lrow {l : By} {a : Nat} (h : Seam l a) : Seam l (lrowE l a) := lrowF_seam h.le _ _ _ (Seam.zero l) (Seam.zero l)
/-- The last seam of a line up to which it has at most so many cells: from piece j on, n cells so far. -/
def undF (P : List (Nat × Nat)) (b : Nat) (most : Int) : Nat → Nat → Nat → Nat
  | 0, j, _ => j
  | f + 1, j, n => if h : j < P.length then (if off P j < b then (if most < ((n + wid (P[j]).2 : Nat) : Int) then j else undF P b most f (j + 1) (n + wid (P[j]).2)) else j) else j
theorem undF_le {P : List (Nat × Nat)} {b : Nat} {most : Int} : ∀ (f j n : Nat), j ≤ P.length → undF P b most f j n ≤ P.length
  | 0, j, _, h => h
  | f + 1, j, n, h => by
    unfold undF
    split
    · rename_i h1
      split
      · split
        · exact h
        · exact undF_le f _ _ h1
      · exact h
    · exact h
/-- The piece that begins at a place (their number: none). -/
def pix (P : List (Nat × Nat)) (a : Nat) : Nat := (hix P (a : Int)).getD P.length
def undE (l : By) (a b : Nat) (most : Int) : Nat := off (pcs l) (undF (pcs l) b most (pcs l).length (pix (pcs l) a) 0)
theorem undE_seam (l : By) (a b : Nat) (most : Int) : Seam l (undE l a b most) := by
  refine ⟨_, undF_le _ _ _ ?_, rfl⟩
  unfold pix
  cases h : hix (pcs l) (a : Int) with
  | none => exact Nat.le_refl _
  | some i => exact Nat.le_of_lt (hix_lt h)
theorem pix_off (l : By) {k : Nat} (hk : k ≤ (pcs l).length) : pix (pcs l) (off (pcs l) k) = k := by
  unfold pix
  by_cases h : k < (pcs l).length
  · have := off_strict (pcs_pos l) h
    rw [hix_at h (by omega) (by omega)]
    rfl
  · have : k = (pcs l).length := by omega
    subst this
    rw [hix_high (by rw [off_full]; have := pcs_sum l; unfold sumw; omega)]
    rfl
/-- Cells between two seams. -/
theorem cells_sub (s : ByteArray) {i j : Nat} (hij : i ≤ j) (hj : j ≤ (pcs s.data.toList).length) :
    total (pcs (s.extract (off (pcs s.data.toList) i) (off (pcs s.data.toList) j)).data.toList) = toC (pcs s.data.toList) j - toC (pcs s.data.toList) i ∧ toC (pcs s.data.toList) i ≤ toC (pcs s.data.toList) j := by
  have hl := ba_len s
  have hx : (s.extract (off (pcs s.data.toList) i) (off (pcs s.data.toList) j)).data.toList = (s.data.toList.drop (off (pcs s.data.toList) i)).take (off (pcs s.data.toList) j - off (pcs s.data.toList) i) := by
    rw [Lib.extract_eq]
  have hd := pcs_drop i s.data.toList (by omega)
  have hk : j - i ≤ (pcs (s.data.toList.drop (off (pcs s.data.toList) i))).length := by rw [hd, List.length_drop]; omega
  have ht := (tw_piece (s.data.toList.drop (off (pcs s.data.toList) i)) hk).1
  have ho : off (pcs (s.data.toList.drop (off (pcs s.data.toList) i))) (j - i) = off (pcs s.data.toList) j - off (pcs s.data.toList) i := by
    rw [hd]
    have := off_cut (pcs s.data.toList) i (j - i) (by omega)
    rw [show i + (j - i) = j by omega] at this
    omega
  have hc : toC (pcs (s.data.toList.drop (off (pcs s.data.toList) i))) (j - i) + toC (pcs s.data.toList) i = toC (pcs s.data.toList) j := by
    rw [hd]
    have := toC_cut (pcs s.data.toList) i (j - i) (by omega)
    rw [show i + (j - i) = j by omega] at this
    omega
  rw [hx, total_tw, ← ho, ht]
  omega
end Go.Proofs.YtcfgpmmclijonaaGreatDoor

/- Layer 25: cells, left by rows, right, under. -/
namespace Go.Proofs.YtcfgpmmclijonaaGreatDoor
set_option linter.unusedVariables false
set_option linter.unusedSimpArgs false
set_option maxRecDepth 100000
open Go.RowKit Go.Shelf Go.Lib
set_option maxRecDepth 100000
set_option maxHeartbeats 8000000

theorem ecells_any (s : ByteArray) (w : World) (hs : s.size ≤ 4000000) : Calls Tryz.prog 43 #[.string s] w fun e w' => e = .returned (.int .i64 (total (pcs s.data.toList) : Int)) ∧ Below w.heap.size w w' := by
  have C := small (Cells_any s w (by omega)) hs
  generalize total (pcs s.data.toList) = T at *
  generalize (pcs s.data.toList).length = L at *
  go_enter Tryz.func43, Tryz.ntmps43
  go_wp2_with fail
  with_reducible refine C.mono ?_
  rintro e w1 ⟨rfl, hb1⟩
  go_wp2
  go_ret
  exact ⟨rfl, hb1⟩
theorem lrow_any (s : ByteArray) (a : Nat) (w : World) (hT : Tabs w) (hs : s.size ≤ 4000000) (ha : a ≤ s.size) : Calls Tryz.prog 31 #[.string s, .int .i64 (a : Int), .bool true] w fun e w' => e = .returned (.int .i64 (lrowE s.data.toList a : Int)) ∧ Below w.heap.size w w' := by
  have hl := ba_len s
  obtain ⟨R, hR⟩ : ∃ R, lrowE s.data.toList a = R := ⟨_, rfl⟩
  rw [hR]
  unfold lrowE at hR
  have HR := hid hR
  have HT := hid hT
  clear hR hT
  go_enter Tryz.func31, Tryz.ntmps31
  go_wp2
  go_loopg [9, 10] (a + 1) (fun gh v9 v10 wr => ∃ k t0 f : Nat, v9 = .int .i64 (t0 : Int) ∧ v10 = .int .i64 (k : Int) ∧ Seam s.data.toList k ∧ a + 1 - k ≤ gh ∧ a < f + k ∧ 0 < f ∧ Hid (lrowF s.data.toList a f k t0 = R) ∧ Below w.heap.size w wr)
  case atStart => exact ⟨0, 0, a + 1, rfl, rfl, Seam.zero _, by omega, by omega, by omega, HR, Below.refl _ _⟩
  case round =>
    obtain ⟨k, t0, f, rfl, rfl, hk, hgh, hf, hf0, HF, hbr⟩ := hrel
    have hk4 := hk.le
    rw [hl] at hk4
    obtain ⟨f, rfl⟩ : ∃ f', f = f' + 1 := ⟨f - 1, by omega⟩
    by_cases hlt : k < a
    · obtain ⟨n, hn, hn1, hn2⟩ := hk.word (by omega)
      have CW := Word_any s (k : Int) wr (tabs_on HT.out hbr) hs
      have hF := HF.out
      rw [lrowF, if_pos hlt, hn] at hF
      rw [hn] at CW
      unfold ansV at CW
      have HF2 := hid hF
      have hlt' : (k : Int) < (a : Int) := by omega
      clear hn hF HF
      go_wp2_with fail
      with_reducible refine CW.mono ?_
      rintro e w1 ⟨rfl, hb1⟩
      have hb2 := hbr.trans (hb1.mono hbr.size)
      go_wp2
      go_roundg (a + 1 - n)
      case measure => omega
      case rel => exact ⟨n, k, f, rfl, rfl, hn1, by omega, by omega, by omega, HF2, hb2⟩
    · have hF := HF.out
      rw [lrowF, if_neg hlt] at hF
      have hlt' : ¬ (k : Int) < (a : Int) := by omega
      subst hF
      go_wp2
      go_ret
      exact ⟨rfl, hbr⟩
theorem right_any (s : ByteArray) (a : Nat) (w : World) (hs : s.size ≤ 4000000) : Calls Tryz.prog 32 #[.string s, .int .i64 (a : Int), .bool false] w fun e w' => e = .returned (.int .i64 (rightE s.data.toList a : Int)) ∧ Below w.heap.size w w' := by
  have C := small (Next_any s (a : Int) w (by omega)) hs
  unfold rightE
  obtain ⟨⟨kk, is⟩, he⟩ : ∃ z, nextE (pcs s.data.toList) (a : Int) = z := ⟨_, rfl⟩
  rw [he] at C ⊢
  unfold ansV at C
  simp only at C ⊢
  cases is with
  | true =>
    rw [if_pos rfl]
    go_enter Tryz.func32, Tryz.ntmps32
    go_wp2_with fail
    with_reducible refine C.mono ?_
    rintro e w1 ⟨rfl, hb1⟩
    go_wp2
    go_ret
    exact ⟨rfl, hb1⟩
  | false =>
    rw [if_neg (by decide)]
    go_enter Tryz.func32, Tryz.ntmps32
    go_wp2_with fail
    with_reducible refine C.mono ?_
    rintro e w1 ⟨rfl, hb1⟩
    go_wp2
    go_ret
    exact ⟨rfl, hb1⟩
theorem rword_any (s : ByteArray) (a : Nat) (w : World) (hT : Tabs w) (hs : s.size ≤ 4000000) : Calls Tryz.prog 32 #[.string s, .int .i64 (a : Int), .bool true] w fun e w' => e = .returned (.int .i64 (rwordE s.data.toList a : Int)) ∧ Below w.heap.size w w' := by
  have C := Word_any s (a : Int) w hT hs
  unfold rwordE
  obtain ⟨⟨kk, is⟩, he⟩ : ∃ z, wordE kd (pcs s.data.toList) (a : Int) = z := ⟨_, rfl⟩
  rw [he] at C ⊢
  unfold ansV at C
  simp only at C ⊢
  clear hT
  cases is with
  | true =>
    rw [if_pos rfl]
    go_enter Tryz.func32, Tryz.ntmps32
    go_wp2_with fail
    with_reducible refine C.mono ?_
    rintro e w1 ⟨rfl, hb1⟩
    go_wp2
    go_ret
    exact ⟨rfl, hb1⟩
  | false =>
    rw [if_neg (by decide)]
    go_enter Tryz.func32, Tryz.ntmps32
    go_wp2_with fail
    with_reducible refine C.mono ?_
    rintro e w1 ⟨rfl, hb1⟩
    go_wp2
    go_ret
    exact ⟨rfl, hb1⟩
theorem under_any (s : ByteArray) (a b : Nat) (most : Int) (w : World) (hs : s.size ≤ 4000000) (ha : Seam s.data.toList a) (hb : b ≤ s.size) (hm : most ≤ 9223372036854775807) :
    Calls Tryz.prog 45 #[.string s, .int .i64 (a : Int), .int .i64 (b : Int), .int .i64 most] w fun e w' => e = .returned (.int .i64 (undE s.data.toList a b most : Int)) ∧ Below w.heap.size w w' := by
  have hl := ba_len s
  obtain ⟨i, hi, rfl⟩ := ha
  unfold undE
  rw [pix_off _ hi]
  have CC := fun j k (w1 : World) => ecells_any (s.extract j k) w1 (by rw [ByteArray.size_extract]; omega)
  have CN := fun (k : Nat) w1 => small (Next_any s (k : Int) w1 (by omega)) hs
  have CX := fun (j : Nat) (hj : j < (pcs s.data.toList).length) => cells_sub s (Nat.le_succ j) hj
  have hnx := fun (j : Nat) (hj : j < (pcs s.data.toList).length) => next_off hj
  have hos := fun (j : Nat) (hj : j < (pcs s.data.toList).length) => off_strict (pcs_pos s.data.toList) hj
  have hoe := fun (j : Nat) => off_end s.data.toList j
  have hof := off_full s.data.toList
  have hpl := pcs_len s.data.toList
  have hts := fun (j : Nat) (hj : j < (pcs s.data.toList).length) => toC_succ (pcs s.data.toList) j hj
  rw [hl] at hof hpl
  simp only [hl] at hoe
  generalize pcs s.data.toList = P at *
  obtain ⟨R, hR⟩ : ∃ R, undF P b most P.length i 0 = R := ⟨_, rfl⟩
  rw [hR]
  have HR := hid hR
  have HC := hid CC
  have HN := hid CN
  have HX := hid CX
  have HNX := hid hnx
  have HOS := hid hos
  have HOE := hid hoe
  have HOF := hid hof
  have HTS := hid hts
  clear hR CC CN CX hnx hos hoe hof hts
  go_enter Tryz.func45, Tryz.ntmps45
  go_wp2
  go_loopg [9, 10, 11] P.length (fun gh v9 v10 v11 wr => ∃ j n f : Nat, v9 = .int .i64 (off P j : Int) ∧ v10 = .int .i64 (off P j : Int) ∧ v11 = .int .i64 (n : Int) ∧ j ≤ P.length ∧ P.length - j ≤ gh ∧ P.length ≤ f + j ∧ n ≤ 2 * j ∧ Hid (undF P b most f j n = R) ∧ Below w.heap.size w wr)
  case atStart => exact ⟨i, 0, P.length, rfl, rfl, rfl, hi, by omega, by omega, by omega, HR, Below.refl _ _⟩
  case round =>
    obtain ⟨j, n, f, rfl, rfl, rfl, hj, hgh, hf, hn, HF, hbr⟩ := hrel
    by_cases hlt : off P j < b
    · have hjl : j < P.length := by
        false_or_by_contra
        have : j = P.length := by omega
        subst this
        have := HOF.out
        omega
      have hx := (HX.out j hjl).1
      have hts := HTS.out j hjl
      have hw := wid_le (P[j].2 : Int)
      have e1 := HNX.out j hjl
      have h1 := HOS.out j hjl
      have h2 := HOE.out (j + 1)
      obtain ⟨f, rfl⟩ : ∃ f', f = f' + 1 := ⟨f - 1, by omega⟩
      have hF := HF.out
      rw [undF, dif_pos hjl, if_pos hlt] at hF
      have C1 := HN.out (off P j) wr
      rw [e1] at C1
      unfold ansV at C1
      simp only at C1
      have C2 := fun w1 => HC.out (off P j) (off P (j + 1)) w1
      rw [show j.succ = j + 1 from rfl] at hx
      rw [hx, hts, Nat.add_sub_cancel_left] at C2
      obtain ⟨r, hr⟩ : ∃ r, (P[j]'hjl).2 = r := ⟨_, rfl⟩
      rw [hr] at C2 hF hw
      obtain ⟨d, hd⟩ : ∃ d, wid (r : Int) = d := ⟨_, rfl⟩
      rw [hd] at C2 hF hw
      obtain ⟨x, hx0⟩ : ∃ x, off P j = x := ⟨_, rfl⟩
      obtain ⟨y, hy0⟩ : ∃ y, off P (j + 1) = y := ⟨_, rfl⟩
      rw [hx0] at C1 C2 h1 hlt
      rw [hy0] at C1 C2 h1 h2
      rw [hx0]
      have HX0 := hid hx0
      have HY0 := hid hy0
      have HC2 := hid C2
      have q1 : (x : Int) < (b : Int) := by omega
      have q2 : (x : Int) ≤ (y : Int) := by omega
      have q3 : (y : Int) ≤ (s.size : Int) := by omega
      have q4 : x ≤ y := by omega
      clear hx hts e1 hx0 hy0 HF C2 h1 hd hr
      by_cases hmost : most < ((n + d : Nat) : Int)
      · rw [if_pos hmost] at hF
        subst hF
        have q5 : most < (n : Int) + (d : Int) := by omega
        have q6 : decide (most < (n : Int) + (d : Int)) = true := decide_eq_true q5
        go_wp2_with fail
        with_reducible refine C1.mono ?_
        rintro e w1 ⟨rfl, hb1⟩
        have C2 := HC2.out w1
        go_wp2_with fail
        with_reducible refine C2.mono ?_
        rintro e w2 ⟨rfl, hb2⟩
        go_wp2
        go_ret
        exact ⟨by rw [HX0.out]; rfl, (hbr.trans (hb1.mono hbr.size)).trans (hb2.mono (hbr.trans (hb1.mono hbr.size)).size)⟩
      · rw [if_neg hmost] at hF
        have HF2 := hid hF
        have q5 : ¬ most < (n : Int) + (d : Int) := by omega
        have q6 : decide (most < (n : Int) + (d : Int)) = false := decide_eq_false q5
        clear hF
        go_wp2_with fail
        with_reducible refine C1.mono ?_
        rintro e w1 ⟨rfl, hb1⟩
        have C2 := HC2.out w1
        go_wp2_with fail
        with_reducible refine C2.mono ?_
        rintro e w2 ⟨rfl, hb2⟩
        have hb3 := (hbr.trans (hb1.mono hbr.size)).trans (hb2.mono (hbr.trans (hb1.mono hbr.size)).size)
        go_wp2
        go_roundg (P.length - (j + 1))
        case measure => omega
        case rel => exact ⟨j + 1, n + d, f, by rw [HY0.out], by rw [HY0.out], by go_num, by omega, by omega, by omega, by omega, HF2, hb3⟩
    · have hF := HF.out
      have hR : j = R := by
        cases f with
        | zero => rw [undF] at hF; exact hF
        | succ f =>
          rw [undF] at hF
          by_cases hjl : j < P.length
          · rw [dif_pos hjl, if_neg hlt] at hF; exact hF
          · rw [dif_neg hjl] at hF; exact hF
      subst hR
      have q1 : ¬ (off P j : Int) < (b : Int) := by omega
      obtain ⟨x, hx0⟩ : ∃ x, off P j = x := ⟨_, rfl⟩
      have HX0 := hid hx0
      rw [hx0] at q1
      rw [hx0]
      clear hF HF hlt hx0
      go_wp2
      go_ret
      exact ⟨by rw [HX0.out]; rfl, hbr⟩
end Go.Proofs.YtcfgpmmclijonaaGreatDoor

/- Layer 25: where keys lead: goes. -/
namespace Go.Proofs.YtcfgpmmclijonaaGreatDoor
set_option linter.unusedVariables false
set_option linter.unusedSimpArgs false
set_option maxRecDepth 100000
open Go.RowKit Go.Shelf Go.Lib
set_option maxRecDepth 100000
set_option maxHeartbeats 8000000

def lnA (b : ByteArray) (a : Nat) : Nat := (lineA b a).toNat
def lnB (b : ByteArray) (a : Nat) : Nat := (lineB b a).toNat
def acrossE (b : ByteArray) (x a : Nat) : Nat := undE b.data.toList (lnA b a) (lnB b a) (total (pcs (b.extract (lnA b x) x).data.toList) : Int)
/-- Where a key leads that is without 'alt'; J: it jumps to an end of what is chosen. -/
def goesJ (b : ByteArray) (x y : Nat) (s : ByteArray) (row J : Bool) : Option Nat :=
  if s = ⟨#[108, 101, 102, 116]⟩ then (if J then some (min x y) else (if row then some (lrowE b.data.toList x) else some (leftE b.data.toList x)))
  else if s = ⟨#[114, 105, 103, 104, 116]⟩ then (if J then some (max x y) else (if row then some (rwordE b.data.toList x) else some (rightE b.data.toList x)))
  else if s = ⟨#[104, 111, 109, 101]⟩ then (if row then some 0 else some (lnA b x))
  else if s = ⟨#[101, 110, 100]⟩ then (if row then some b.size else some (lnB b x))
  else if row then none
  else if s = ⟨#[117, 112]⟩ then (if lnA b x = 0 then some 0 else some (acrossE b x (lnA b x - 1)))
  else if s = ⟨#[100, 111, 119, 110]⟩ then (if lnB b x = b.size then some (lnB b x) else some (acrossE b x (lnB b x + 1)))
  else none
/-- Where a key leads; ns: neither shift nor control. -/
def goesE (b : ByteArray) (x y : Nat) (s : ByteArray) (al row ns : Bool) : Option Nat := if al then none else goesJ b x y s row (decide (min x y < max x y) && ns)
theorem lnA_eq {b : ByteArray} {a : Nat} (ha : a ≤ b.size) : lineA b a = (lnA b a : Int) ∧ LineA b.data.toList a (lnA b a) := by
  obtain ⟨A, h1, h2⟩ := lineA_nat b ha
  have : lnA b a = A := by unfold lnA; rw [h1]; rfl
  rw [this]
  exact ⟨h1, h2⟩
theorem lnB_eq {b : ByteArray} {a : Nat} (ha : a ≤ b.size) : lineB b a = (lnB b a : Int) ∧ LineB b.data.toList a (lnB b a) := by
  obtain ⟨A, h1, h2⟩ := lineB_nat b ha
  have : lnB b a = A := by unfold lnB; rw [h1]; rfl
  rw [this]
  exact ⟨h1, h2⟩
theorem lnB_next {b : ByteArray} {a : Nat} (ha : a ≤ b.size) (h : ¬ lnB b a = b.size) : lnB b a + 1 ≤ b.size := by
  have h1 := (lnB_eq ha).2.2.1
  rw [ba_len] at h1
  omega
theorem goesJ_seam {b : ByteArray} {x y : Nat} {s : ByteArray} {row J : Bool} {z : Nat} (hx : Seam b.data.toList x) (hy : Seam b.data.toList y) (h : goesJ b x y s row J = some z) : Seam b.data.toList z := by
  have hl := ba_len b
  have hxl := hx.le
  rw [hl] at hxl
  have hA := (lnA_eq hxl).2.seam
  have hB := (lnB_eq hxl).2.seam
  have key : ∀ u, some u = some z → Seam b.data.toList u → Seam b.data.toList z := fun u e q => by
    injection e with e
    rw [← e]
    exact q
  unfold goesJ at h
  split at h
  · split at h
    · exact key _ h (Seam.min hx hy)
    · split at h
      · exact key _ h hx.lrow
      · exact key _ h hx.left
  split at h
  · split at h
    · exact key _ h (Seam.max hx hy)
    · split at h
      · exact key _ h hx.rword
      · exact key _ h hx.right
  split at h
  · split at h
    · exact key _ h (Seam.zero _)
    · exact key _ h hA
  split at h
  · split at h
    · exact key _ h (by rw [← hl]; exact Seam.last _)
    · exact key _ h hB
  split at h
  · cases h
  split at h
  · split at h
    · exact key _ h (Seam.zero _)
    · exact key _ h (undE_seam _ _ _ _)
  split at h
  · split at h
    · exact key _ h hB
    · exact key _ h (undE_seam _ _ _ _)
  · cases h
theorem goesE_seam {b : ByteArray} {x y : Nat} {s : ByteArray} {al row ns : Bool} {z : Nat} (hx : Seam b.data.toList x) (hy : Seam b.data.toList y) (h : goesE b x y s al row ns = some z) : Seam b.data.toList z := by
  unfold goesE at h
  split at h
  · cases h
  · exact goesJ_seam hx hy h
theorem str_ne {s : ByteArray} {l : List UInt8} (h : ¬ s = ⟨l.toArray⟩) : (s.toList == l) = false := by
  refine beq_eq_false_iff_ne.2 fun e => h ?_
  rw [ByteArray.toList_eq] at e
  rw [← e]
section
variable {w : World} {g : Nat} {b : ByteArray} {x y : Nat} {p q : Value} {k m : Nat}
theorem goes_alt (h : EdAt w g b x y p q k m) (s : ByteArray) (md : Nat) (v4 : Int) (a4 : bits .and .u8 (md : Int) 4 = v4) (h4 : (v4 != 0) = true) :
    Calls Tryz.prog 29 #[.pointer (some ⟨g, 0, none⟩), .agg #[.string s, .int .u8 (md : Int)]] w fun e w' => e = .returned (.tuple #[.int .i64 0, .bool false]) ∧ Below w.heap.size w w' := by
  have hB1 := (Below.refl w.heap.size w).alloc (Nat.le_refl _) (.cells #[.string s, .int .u8 (md : Int)] 32)
  clear h
  go_enter Tryz.func29, Tryz.ntmps29
  go_wp2
  exact bodyPost_ret (by simp [results, Tryz.results29, go_sem, *]) rfl ⟨rfl, hB1⟩
theorem goes_any (h : EdAt w g b x y p q k m) (hT : Tabs w) (hb : b.size ≤ 4000000) (hx : x ≤ b.size) (s : ByteArray) (md : Nat) (al row ns : Bool) (v4 v2 v3 : Int)
    (a4 : bits .and .u8 (md : Int) 4 = v4) (h4 : (v4 != 0) = al) (a2 : bits .and .u8 (md : Int) 2 = v2) (h2 : (v2 != 0) = row) (a3 : bits .and .u8 (md : Int) 3 = v3) (h3 : (v3 == 0) = ns) :
    Calls Tryz.prog 29 #[.pointer (some ⟨g, 0, none⟩), .agg #[.string s, .int .u8 (md : Int)]] w fun e w' => e = .returned (.tuple #[.int .i64 ((goesE b x y s al row ns).getD 0 : Nat), .bool (goesE b x y s al row ns).isSome]) ∧ Below w.heap.size w w' := by
  cases al with
  | true =>
    have hG : goesE b x y s true row ns = none := rfl
    rw [hG]
    exact goes_alt h s md v4 a4 h4
  | false =>
  have hB1 := (Below.refl w.heap.size w).alloc (Nat.le_refl _) (.cells #[.string s, .int .u8 (md : Int)] 32)
  have bx1 : Box2 (w.alloc (.cells #[.string s, .int .u8 (md : Int)] 32)) w.heap.size s md := Box2.of_heap (World.alloc_heap_new _ _)
  have h1 := h.on hB1
  obtain ⟨c0, c1, c2, c3, c4, c5, c6, c7⟩ := h1.cells
  have lg := h.lt
  have lg1 : g < w.heap.size + 1 := by omega
  have eA := lnA_eq hx
  have eB := lnB_eq hx
  have CL := fun w1 => line_any b x w1 hb hx
  rw [eA.1, eB.1] at CL
  have CS := fun w1 (h1 : EdAt w1 g b x y p q k m) => span_any h1
  have hGE : goesE b x y s false row ns = goesJ b x y s row (decide (min x y < max x y) && ns) := rfl
  rw [hGE]
  clear hGE
  obtain ⟨J, hJ⟩ : ∃ J, (decide (min x y < max x y) && ns) = J := ⟨_, rfl⟩
  rw [hJ]
  obtain ⟨G, hG⟩ : ∃ G, goesJ b x y s row J = G := ⟨_, rfl⟩
  rw [hG]
  have HG := hid hG
  have HCS := hid CS
  have HH := hid h1
  have HT := hid hT
  have hw1 : (w.alloc (.cells #[.string s, .int .u8 (md : Int)] 32)).heap.size = w.heap.size + 1 := World.size_alloc _ _
  have HCL := hid CL
  have HA := hid eA.2
  have HB := hid eB.2
  obtain ⟨A, hAA⟩ : ∃ A, lnA b x = A := ⟨_, rfl⟩
  obtain ⟨B, hBB⟩ : ∃ B, lnB b x = B := ⟨_, rfl⟩
  obtain ⟨lo, hlo⟩ : ∃ z, min x y = z := ⟨_, rfl⟩
  obtain ⟨hi, hhi⟩ : ∃ z, max x y = z := ⟨_, rfl⟩
  rw [hAA] at CL
  rw [hBB] at CL
  rw [hlo, hhi] at CS
  rw [hlo, hhi] at hJ
  have HJ := hid hJ
  have HCS := hid CS
  have HAA := hid hAA
  have HBB := hid hBB
  have HLO := hid hlo
  have HHI := hid hhi
  clear h h1 CS hG hT hJ eA eB HCL hAA hBB hlo hhi
  go_enter Tryz.func29, Tryz.ntmps29
  go_wp2
  refine region_ext mixed (by kernel_rfl) ?_
  generalize w.alloc (.cells #[.string s, .int .u8 (md : Int)] 32) = w1 at *
  have lg2 : g < w1.heap.size := by omega
  (repeat (go_big_quiet_step (fail)))
  refine wpQuiet_nil ?_
  intro w2 hb2
  have bx2 := bx1.below hb2 (by omega)
  have hs2 := hb2.size
  have h2' := HH.out.on hb2
  have hB2 := hB1.trans (hb2.mono hB1.size)
  obtain ⟨k0, k1, k2, k3⟩ := bx2
  have H2 := hid h2'
  clear c0 c1 c2 c3 c4 c5 c6 c7 h2' hb2
  go_wp2_with fail
  with_reducible refine (CL _).mono ?_
  rintro e w3 ⟨rfl, hb3⟩
  obtain ⟨j0, j1, j2, j3⟩ := Box2.below ⟨k0, k1, k2, k3⟩ hb3 (by omega)
  have hs3 := hb3.size
  have C3 := HCS.out w3 (H2.out.on hb3)
  have hB3 := hB2.trans (hb3.mono hB2.size)
  clear k0 k1 k2 k3 hb3
  go_wp2_with fail
  with_reducible refine C3.mono ?_
  rintro e w4 ⟨rfl, hb4⟩
  have bx4 := Box2.below ⟨j0, j1, j2, j3⟩ hb4 (by omega)
  have hB4 := hB3.trans (hb4.mono hB3.size)
  have hT4 := tabs_on HT.out hB4
  clear j0 j1 j2 j3 hb4 C3 HCS H2 HH bx1 CL
  have HBX := hid bx4
  clear bx4
  go_upto_region 7 with fail
  go_cut [13] from 48 to 56 (fun v wx => v = .bool J ∧ wx = w4)
  case first =>
    obtain ⟨k0, k1, k2, k3⟩ := HBX.out
    by_cases hj : lo < hi
    · have q1 : decide ((lo : Int) < (hi : Int)) = true := decide_eq_true (by omega)
      have q2 : (lo : Int) < (hi : Int) := by omega
      have hJ := HJ.out
      rw [decide_eq_true hj, Bool.true_and] at hJ
      subst hJ
      go_wp2
      go_meet
      exact ⟨rfl, rfl⟩
    · have q1 : decide ((lo : Int) < (hi : Int)) = false := decide_eq_false (by omega)
      have q2 : ¬ (lo : Int) < (hi : Int) := by omega
      have hJ := HJ.out
      rw [decide_eq_false hj, Bool.false_and] at hJ
      subst hJ
      go_wp2
      go_meet
      exact ⟨rfl, rfl⟩
  case rest =>
    obtain ⟨rfl, rfl⟩ := hcut
    have bx4 := HBX.out
    by_cases n1 : s = ⟨#[108, 101, 102, 116]⟩
    · subst n1
      obtain ⟨k0, k1, k2, k3⟩ := bx4
      cases J with
      | true =>
        have hg := HG.out
        unfold goesJ at hg
        rw [if_pos rfl] at hg
        rw [if_pos rfl, HLO.out] at hg
        subst hg
        clear HG
        go_wp2
        exact bodyPost_ret (by simp [results, Tryz.results29, go_sem, *]) rfl ⟨rfl, hB4⟩
      | false =>
        have hg := HG.out
        unfold goesJ at hg
        rw [if_pos rfl] at hg
        rw [if_neg (by decide)] at hg
        cases row with
        | true =>
          rw [if_pos rfl] at hg
          subst hg
          have C5 := lrow_any b x wc hT4 hb hx
          clear HG
          go_wp2_with fail
          with_reducible refine C5.mono ?_
          rintro e w5 ⟨rfl, hb5⟩
          clear C5
          go_wp2
          exact bodyPost_ret (by simp [results, Tryz.results29, go_sem, *]) rfl ⟨rfl, (hB4.trans (hb5.mono hB4.size))⟩
        | false =>
          rw [if_neg (by decide)] at hg
          subst hg
          have C5 := left_any b x wc hb hx
          clear HG
          go_wp2_with fail
          with_reducible refine C5.mono ?_
          rintro e w5 ⟨rfl, hb5⟩
          clear C5
          go_wp2
          exact bodyPost_ret (by simp [results, Tryz.results29, go_sem, *]) rfl ⟨rfl, (hB4.trans (hb5.mono hB4.size))⟩
    have t1 := str_ne (l := [108, 101, 102, 116]) n1
    by_cases n2 : s = ⟨#[114, 105, 103, 104, 116]⟩
    · subst n2
      obtain ⟨k0, k1, k2, k3⟩ := bx4
      cases J with
      | true =>
        have hg := HG.out
        unfold goesJ at hg
        rw [if_neg (by decide), if_pos rfl] at hg
        rw [if_pos rfl, HHI.out] at hg
        subst hg
        clear HG
        go_wp2
        exact bodyPost_ret (by simp [results, Tryz.results29, go_sem, *]) rfl ⟨rfl, hB4⟩
      | false =>
        have hg := HG.out
        unfold goesJ at hg
        rw [if_neg (by decide), if_pos rfl] at hg
        rw [if_neg (by decide)] at hg
        cases row with
        | true =>
          rw [if_pos rfl] at hg
          subst hg
          have C5 := rword_any b x wc hT4 hb
          clear HG
          go_wp2_with fail
          with_reducible refine C5.mono ?_
          rintro e w5 ⟨rfl, hb5⟩
          clear C5
          go_wp2
          exact bodyPost_ret (by simp [results, Tryz.results29, go_sem, *]) rfl ⟨rfl, (hB4.trans (hb5.mono hB4.size))⟩
        | false =>
          rw [if_neg (by decide)] at hg
          subst hg
          have C5 := right_any b x wc hb
          clear HG
          go_wp2_with fail
          with_reducible refine C5.mono ?_
          rintro e w5 ⟨rfl, hb5⟩
          clear C5
          go_wp2
          exact bodyPost_ret (by simp [results, Tryz.results29, go_sem, *]) rfl ⟨rfl, (hB4.trans (hb5.mono hB4.size))⟩
    have t2 := str_ne (l := [114, 105, 103, 104, 116]) n2
    by_cases n3 : s = ⟨#[104, 111, 109, 101]⟩
    · subst n3
      obtain ⟨k0, k1, k2, k3⟩ := bx4
      cases row with
      | true =>
        have hg := HG.out
        unfold goesJ at hg
        rw [if_neg (by decide), if_neg (by decide), if_pos rfl] at hg
        rw [if_pos rfl] at hg
        subst hg
        clear HG
        go_wp2
        exact bodyPost_ret (by simp [results, Tryz.results29, go_sem, *]) rfl ⟨rfl, hB4⟩
      | false =>
        have hg := HG.out
        unfold goesJ at hg
        rw [if_neg (by decide), if_neg (by decide), if_pos rfl] at hg
        rw [if_neg (by decide), HAA.out] at hg
        subst hg
        clear HG
        go_wp2
        exact bodyPost_ret (by simp [results, Tryz.results29, go_sem, *]) rfl ⟨rfl, hB4⟩
    have t3 := str_ne (l := [104, 111, 109, 101]) n3
    by_cases n4 : s = ⟨#[101, 110, 100]⟩
    · subst n4
      obtain ⟨k0, k1, k2, k3⟩ := bx4
      cases row with
      | true =>
        have hg := HG.out
        unfold goesJ at hg
        rw [if_neg (by decide), if_neg (by decide), if_neg (by decide), if_pos rfl] at hg
        rw [if_pos rfl] at hg
        subst hg
        clear HG
        go_wp2
        exact bodyPost_ret (by simp [results, Tryz.results29, go_sem, *]) rfl ⟨rfl, hB4⟩
      | false =>
        have hg := HG.out
        unfold goesJ at hg
        rw [if_neg (by decide), if_neg (by decide), if_neg (by decide), if_pos rfl] at hg
        rw [if_neg (by decide), HBB.out] at hg
        subst hg
        clear HG
        go_wp2
        exact bodyPost_ret (by simp [results, Tryz.results29, go_sem, *]) rfl ⟨rfl, hB4⟩
    have t4 := str_ne (l := [101, 110, 100]) n4
    cases row with
    | true =>
      have hg := HG.out
      unfold goesJ at hg
      rw [if_neg n1, if_neg n2, if_neg n3, if_neg n4, if_pos rfl] at hg
      obtain ⟨k0, k1, k2, k3⟩ := bx4
      subst hg
      clear HG
      go_wp2
      exact bodyPost_ret (by simp [results, Tryz.results29, go_sem, *]) rfl ⟨rfl, hB4⟩
    | false =>
      by_cases n5 : s = ⟨#[117, 112]⟩
      · subst n5
        obtain ⟨k0, k1, k2, k3⟩ := bx4
        by_cases hA0 : A = 0
        · have hg := HG.out
          unfold goesJ at hg
          rw [if_neg (by decide), if_neg (by decide), if_neg (by decide), if_neg (by decide), if_neg (by decide), if_pos rfl] at hg
          rw [HAA.out, if_pos hA0] at hg
          have q1 : ((A : Int) == 0) = true := beq_iff_eq.2 (by omega)
          have q2 : (A : Int) = 0 := by omega
          subst hg
          clear HG
          go_wp2
          exact bodyPost_ret (by simp [results, Tryz.results29, go_sem, *]) rfl ⟨rfl, hB4⟩
        · have hg := HG.out
          unfold goesJ at hg
          rw [if_neg (by decide), if_neg (by decide), if_neg (by decide), if_neg (by decide), if_neg (by decide), if_pos rfl] at hg
          rw [HAA.out, if_neg hA0] at hg
          have q1 : ((A : Int) == 0) = false := beq_eq_false_iff_ne.2 (by omega)
          have q2 : ¬ (A : Int) = 0 := by omega
          have hAx := HA.out.1
          rw [HAA.out] at hAx
          unfold acrossE at hg
          have ha : A - 1 ≤ b.size := by omega
          have hc : ((A - 1 : Nat) : Int) = (A : Int) - 1 := by omega
          have CL2 := fun w1 => line_any b (A - 1) w1 hb ha
          have e1 := lnA_eq ha
          have e2 := lnB_eq ha
          have s1 := e1.2.seam
          have s2 := e2.2.2.1
          rw [ba_len] at s2
          rw [e1.1, e2.1, hc] at CL2
          rw [HAA.out] at hg
          obtain ⟨A2, hA2⟩ : ∃ z, lnA b (A - 1) = z := ⟨_, rfl⟩
          obtain ⟨B2, hB2'⟩ : ∃ z, lnB b (A - 1) = z := ⟨_, rfl⟩
          rw [hA2] at CL2 hg s1
          rw [hB2'] at CL2 hg s2
          have hzx : (b.extract A x).size ≤ 4000000 := by rw [ByteArray.size_extract]; omega
          have CC := fun w1 => ecells_any (b.extract A x) w1 hzx
          have hT2 := total_le (pcs (b.extract A x).data.toList)
          have hpl := pcs_len (b.extract A x).data.toList
          rw [ba_len] at hpl
          obtain ⟨T, hTT⟩ : ∃ z, total (pcs (b.extract A x).data.toList) = z := ⟨_, rfl⟩
          rw [hTT] at CC hg hT2
          have CU := fun w1 => under_any b A2 B2 (T : Int) w1 hb s1 s2 (by omega)
          obtain ⟨U, hU⟩ : ∃ z, undE b.data.toList A2 B2 (T : Int) = z := ⟨_, rfl⟩
          rw [hU] at CU hg
          subst hg
          have q5 : (A : Int) ≤ (x : Int) := by omega
          have q6 : (x : Int) ≤ (b.size : Int) := by omega
          have HCU := hid CU
          have HCC := hid CC
          clear HG CC CU e1 e2 s1 s2 hT2 hpl hTT hU hA2 hB2' hzx
          go_wp2_with fail
          with_reducible refine (CL2 _).mono ?_
          rintro e w5 ⟨rfl, hb5⟩
          have hB5 := hB4.trans (hb5.mono hB4.size)
          have CC := HCC.out w5
          clear CL2 hb5
          go_wp2_with fail
          with_reducible refine CC.mono ?_
          rintro e w6 ⟨rfl, hb6⟩
          have hB6 := hB5.trans (hb6.mono hB5.size)
          have CU := HCU.out w6
          clear CC hb6
          go_wp2_with fail
          with_reducible refine CU.mono ?_
          rintro e w7 ⟨rfl, hb7⟩
          clear CU
          go_wp2
          exact bodyPost_ret (by simp [results, Tryz.results29, go_sem, *]) rfl ⟨rfl, (hB6.trans (hb7.mono hB6.size))⟩
      have t5 := str_ne (l := [117, 112]) n5
      by_cases n6 : s = ⟨#[100, 111, 119, 110]⟩
      · subst n6
        obtain ⟨k0, k1, k2, k3⟩ := bx4
        by_cases hB0 : B = b.size
        · have hg := HG.out
          unfold goesJ at hg
          rw [if_neg (by decide), if_neg (by decide), if_neg (by decide), if_neg (by decide), if_neg (by decide), if_neg (by decide), if_pos rfl] at hg
          rw [HBB.out, if_pos hB0] at hg
          have q1 : ((B : Int) == (b.size : Int)) = true := beq_iff_eq.2 (by omega)
          have q2 : (B : Int) = (b.size : Int) := by omega
          subst hg
          clear HG
          go_wp2
          exact bodyPost_ret (by simp [results, Tryz.results29, go_sem, *]) rfl ⟨rfl, hB4⟩
        · have hg := HG.out
          unfold goesJ at hg
          rw [if_neg (by decide), if_neg (by decide), if_neg (by decide), if_neg (by decide), if_neg (by decide), if_neg (by decide), if_pos rfl] at hg
          rw [HBB.out, if_neg hB0] at hg
          have q1 : ((B : Int) == (b.size : Int)) = false := beq_eq_false_iff_ne.2 (by omega)
          have q2 : ¬ (B : Int) = (b.size : Int) := by omega
          have hAx := HA.out.1
          rw [HAA.out] at hAx
          have hBn := HBB.out
          have hbn : B + 1 ≤ b.size := by rw [← hBn]; exact lnB_next hx (by rw [hBn]; exact hB0)
          unfold acrossE at hg
          have ha : B + 1 ≤ b.size := hbn
          have hc : ((B + 1 : Nat) : Int) = (B : Int) + 1 := by omega
          have CL2 := fun w1 => line_any b (B + 1) w1 hb ha
          have e1 := lnA_eq ha
          have e2 := lnB_eq ha
          have s1 := e1.2.seam
          have s2 := e2.2.2.1
          rw [ba_len] at s2
          rw [e1.1, e2.1, hc] at CL2
          rw [HAA.out] at hg
          obtain ⟨A2, hA2⟩ : ∃ z, lnA b (B + 1) = z := ⟨_, rfl⟩
          obtain ⟨B2, hB2'⟩ : ∃ z, lnB b (B + 1) = z := ⟨_, rfl⟩
          rw [hA2] at CL2 hg s1
          rw [hB2'] at CL2 hg s2
          have hzx : (b.extract A x).size ≤ 4000000 := by rw [ByteArray.size_extract]; omega
          have CC := fun w1 => ecells_any (b.extract A x) w1 hzx
          have hT2 := total_le (pcs (b.extract A x).data.toList)
          have hpl := pcs_len (b.extract A x).data.toList
          rw [ba_len] at hpl
          obtain ⟨T, hTT⟩ : ∃ z, total (pcs (b.extract A x).data.toList) = z := ⟨_, rfl⟩
          rw [hTT] at CC hg hT2
          have CU := fun w1 => under_any b A2 B2 (T : Int) w1 hb s1 s2 (by omega)
          obtain ⟨U, hU⟩ : ∃ z, undE b.data.toList A2 B2 (T : Int) = z := ⟨_, rfl⟩
          rw [hU] at CU hg
          subst hg
          have q5 : (A : Int) ≤ (x : Int) := by omega
          have q6 : (x : Int) ≤ (b.size : Int) := by omega
          have HCU := hid CU
          have HCC := hid CC
          clear HG CC CU e1 e2 s1 s2 hT2 hpl hTT hU hA2 hB2' hzx
          go_wp2_with fail
          with_reducible refine (CL2 _).mono ?_
          rintro e w5 ⟨rfl, hb5⟩
          have hB5 := hB4.trans (hb5.mono hB4.size)
          have CC := HCC.out w5
          clear CL2 hb5
          go_wp2_with fail
          with_reducible refine CC.mono ?_
          rintro e w6 ⟨rfl, hb6⟩
          have hB6 := hB5.trans (hb6.mono hB5.size)
          have CU := HCU.out w6
          clear CC hb6
          go_wp2_with fail
          with_reducible refine CU.mono ?_
          rintro e w7 ⟨rfl, hb7⟩
          clear CU
          go_wp2
          exact bodyPost_ret (by simp [results, Tryz.results29, go_sem, *]) rfl ⟨rfl, (hB6.trans (hb7.mono hB6.size))⟩
      have t6 := str_ne (l := [100, 111, 119, 110]) n6
      have hg := HG.out
      unfold goesJ at hg
      rw [if_neg n1, if_neg n2, if_neg n3, if_neg n4, if_neg (by decide), if_neg n5, if_neg n6] at hg
      obtain ⟨k0, k1, k2, k3⟩ := bx4
      subst hg
      clear HG
      go_wp2
      exact bodyPost_ret (by simp [results, Tryz.results29, go_sem, *]) rfl ⟨rfl, hB4⟩
end
end Go.Proofs.YtcfgpmmclijonaaGreatDoor
