/- Layer 25: Show. -/
import Derived.Test.YtcfgpmmclijonaaGreatDoorEdSg
import Derived.Test.YtcfgpmmclijonaaGreatDoorEdRt
import Derived.Deep.LoopGhost
namespace Go.Proofs.YtcfgpmmclijonaaGreatDoor
set_option linter.unusedVariables false
set_option linter.unusedSimpArgs false
set_option maxRecDepth 100000
open Go.RowKit Go.Shelf Go.Lib
set_option maxRecDepth 100000
set_option maxHeartbeats 8000000

/-- The first piece from which on less than n cells lie ahead of piece i1. -/
def shwF (P : List (Nat × Nat)) (i1 n : Nat) : Nat → Nat → Nat
  | 0, i => i
  | f + 1, i => if n ≤ toC P i1 - toC P i then shwF P i1 n f (i + 1) else i
theorem toC_mono_ (P : List (Nat × Nat)) {i j : Nat} (h : i ≤ j) (hj : j ≤ P.length) : toC P i ≤ toC P j := by
  have := toC_cut P i (j - i) (by omega)
  rw [show i + (j - i) = j by omega] at this
  omega
theorem shwF_spec (P : List (Nat × Nat)) (i1 n : Nat) (hn : 1 ≤ n) (h1 : i1 ≤ P.length) : ∀ (f i : Nat), i ≤ i1 → i1 ≤ f + i → i ≤ shwF P i1 n f i ∧ shwF P i1 n f i ≤ i1 ∧ toC P i1 - toC P (shwF P i1 n f i) < n
  | 0, i, h, hf => by
    have : i = i1 := by omega
    subst this
    exact ⟨Nat.le_refl _, Nat.le_refl _, by unfold shwF; omega⟩
  | f + 1, i, h, hf => by
    unfold shwF
    split
    · rename_i hc
      have hlt : i < i1 := by
        false_or_by_contra
        have : i = i1 := by omega
        subst this
        omega
      have := shwF_spec P i1 n hn h1 f (i + 1) hlt (by omega)
      exact ⟨by omega, this.2⟩
    · exact ⟨Nat.le_refl _, h, by omega⟩
theorem undF_spec {l : By} {kb i0 : Nat} {n : Nat} (hb : kb ≤ (pcs l).length) : ∀ (f j m : Nat), toC (pcs l) i0 + m = toC (pcs l) j → j ≤ kb → kb ≤ f + j → m ≤ n →
    j ≤ undF (pcs l) (off (pcs l) kb) (n : Int) f j m ∧ undF (pcs l) (off (pcs l) kb) (n : Int) f j m ≤ kb ∧ toC (pcs l) (undF (pcs l) (off (pcs l) kb) (n : Int) f j m) ≤ toC (pcs l) i0 + n ∧
    (undF (pcs l) (off (pcs l) kb) (n : Int) f j m = kb ∨ toC (pcs l) i0 + n < toC (pcs l) (undF (pcs l) (off (pcs l) kb) (n : Int) f j m + 1))
  | 0, j, m, hm, hj, hf, hmn => by
    have : j = kb := by omega
    subst this
    exact ⟨Nat.le_refl _, Nat.le_refl _, by unfold undF; omega, .inl rfl⟩
  | f + 1, j, m, hm, hj, hf, hmn => by
    unfold undF
    by_cases hlt : j < kb
    · have hjl : j < (pcs l).length := by omega
      have hs := off_strict (pcs_pos l) hjl
      have hmo := off_mono (pcs l) (show j + 1 ≤ kb by omega)
      have ht := toC_succ (pcs l) j hjl
      rw [dif_pos hjl, if_pos (by omega)]
      split
      · exact ⟨Nat.le_refl _, hj, by omega, .inr (by omega)⟩
      · have := undF_spec (l := l) (i0 := i0) (n := n) hb f (j + 1) (m + wid ((pcs l)[j]).2) (by omega) hlt (by omega) (by omega)
        exact ⟨by omega, this.2⟩
    · have : j = kb := by omega
      subst this
      by_cases hjl : j < (pcs l).length
      · rw [dif_pos hjl, if_neg (by omega)]
        exact ⟨Nat.le_refl _, Nat.le_refl _, by omega, .inl rfl⟩
      · rw [dif_neg hjl]
        exact ⟨Nat.le_refl _, Nat.le_refl _, by omega, .inl rfl⟩
/-- What shows begins with this piece. -/
def showI (b : ByteArray) (x n : Nat) : Nat := shwF (pcs b.data.toList) (pix (pcs b.data.toList) x) n (pcs b.data.toList).length (pix (pcs b.data.toList) (lnA b x))
def showA (b : ByteArray) (x n : Nat) : Nat := off (pcs b.data.toList) (showI b x n)
def showZ (b : ByteArray) (x n : Nat) : Nat := undE b.data.toList (showA b x n) (lnB b x) (n : Int)
def showC (b : ByteArray) (x n : Nat) : Nat := toC (pcs b.data.toList) (pix (pcs b.data.toList) x) - toC (pcs b.data.toList) (showI b x n)
section
variable {w : World} {g : Nat} {b : ByteArray} {x y : Nat} {p q : Value} {k m : Nat}
theorem Show_bad (h : EdAt w g b x y p q k m) (n : Int) (hn : n < 1 ∨ 16384 < n) : Calls Tryz.prog 17 #[.pointer (some ⟨g, 0, none⟩), .int .i64 n] w fun e w' => e = .returned (.tuple #[.string ⟨#[]⟩, .int .i64 0, .int .i64 2]) ∧ Below w.heap.size w w' := by
  have C := is_any h
  have hc : (decide (n < 1) = true) ∨ (decide (n < 1) = false ∧ decide (16384 < n) = true) := by
    by_cases h0 : n < 1
    · exact .inl (decide_eq_true h0)
    · exact .inr ⟨decide_eq_false h0, decide_eq_true (by omega)⟩
  clear h hn
  rcases hc with q1 | ⟨q1, q2⟩
  all_goals
    go_enter Tryz.func17, Tryz.ntmps17
    go_wp2_with fail
    with_reducible refine C.mono ?_
    rintro e w1 ⟨rfl, hb1⟩
    clear C
    go_wp2
    exact bodyPost_ret (by simp [results, Tryz.results17, go_sem, *]) rfl ⟨rfl, hb1⟩
theorem Show_any (h : EdAt w g b x y p q k m) (hb : b.size ≤ 4000000) (hx : Seam b.data.toList x) (n : Nat) (h1 : 1 ≤ n) (h2 : n ≤ 16384) :
    Calls Tryz.prog 17 #[.pointer (some ⟨g, 0, none⟩), .int .i64 (n : Int)] w fun e w' => e = .returned (.tuple #[.string (b.extract (showA b x n) (showZ b x n)), .int .i64 (showC b x n : Int), .int .i64 0]) ∧ Below w.heap.size w w' := by
  have hl := ba_len b
  have hxl := hx.le
  rw [hl] at hxl
  have eA := lnA_eq hxl
  have eB := lnB_eq hxl
  have sA := eA.2.seam
  have bA := eA.2.1
  have bB := eB.2.2.1
  have bB1 := eB.2.1
  rw [hl] at bB
  have CL := fun w1 => line_any b x w1 hb hxl
  rw [eA.1, eB.1] at CL
  obtain ⟨i1, hi1, hx1⟩ := hx
  obtain ⟨iA, hiA, hA1⟩ := sA
  have p1 : pix (pcs b.data.toList) x = i1 := by rw [hx1]; exact pix_off _ hi1
  have p2 : pix (pcs b.data.toList) (lnA b x) = iA := by rw [hA1]; exact pix_off _ hiA
  have hmo : iA ≤ i1 := by
    false_or_by_contra
    have h3 : i1 < iA := by omega
    have h4 := off_strict (pcs_pos b.data.toList) (show i1 < (pcs b.data.toList).length by omega)
    have h5 := off_mono (pcs b.data.toList) (show i1 + 1 ≤ iA by omega)
    omega
  have hsp := shwF_spec (pcs b.data.toList) i1 n h1 hi1 (pcs b.data.toList).length iA hmo (by omega)
  have CC := fun j k (w1 : World) => ecells_any (b.extract j k) w1 (by rw [ByteArray.size_extract]; omega)
  have CN := fun (k : Nat) w1 => small (Next_any b (k : Int) w1 (by omega)) hb
  have CX := fun (i j : Nat) (hij : i ≤ j) (hj : j ≤ (pcs b.data.toList).length) => cells_sub b hij hj
  have hnx := fun (j : Nat) (hj : j < (pcs b.data.toList).length) => next_off hj
  have hos := fun (j : Nat) (hj : j < (pcs b.data.toList).length) => off_strict (pcs_pos b.data.toList) hj
  have hoe := fun (j : Nat) => off_end b.data.toList j
  have hom := fun (i j : Nat) (hij : i ≤ j) => off_mono (pcs b.data.toList) hij
  have htl := fun (j : Nat) => toC_le (pcs b.data.toList) j
  have hpl := pcs_len b.data.toList
  simp only [hl] at hoe hpl
  have CU := fun (i : Nat) (hi : i ≤ (pcs b.data.toList).length) w1 => under_any b (off (pcs b.data.toList) i) (lnB b x) (n : Int) w1 hb ⟨i, hi, rfl⟩ bB (by omega)
  have hz : showZ b x n = undE b.data.toList (off (pcs b.data.toList) (shwF (pcs b.data.toList) i1 n (pcs b.data.toList).length iA)) (lnB b x) (n : Int) := by
    unfold showZ showA showI
    rw [p1, p2]
  have ha : showA b x n = off (pcs b.data.toList) (shwF (pcs b.data.toList) i1 n (pcs b.data.toList).length iA) := by
    unfold showA showI
    rw [p1, p2]
  have hc : showC b x n = toC (pcs b.data.toList) i1 - toC (pcs b.data.toList) (shwF (pcs b.data.toList) i1 n (pcs b.data.toList).length iA) := by
    unfold showC showI
    rw [p1, p2]
  have huz : off (pcs b.data.toList) (shwF (pcs b.data.toList) i1 n (pcs b.data.toList).length iA) ≤ showZ b x n ∧ showZ b x n ≤ b.size := by
    rw [hz]
    obtain ⟨kb, hkb, hkb2⟩ := eB.2.seam
    unfold undE
    rw [pix_off _ (Nat.le_trans hsp.2.1 hi1), hkb2]
    have hkk : shwF (pcs b.data.toList) i1 n (pcs b.data.toList).length iA ≤ kb := by
      refine Nat.le_trans hsp.2.1 ?_
      false_or_by_contra
      have h4 := off_strict (pcs_pos b.data.toList) (show kb < (pcs b.data.toList).length by omega)
      have h5 := off_mono (pcs b.data.toList) (show kb + 1 ≤ i1 by omega)
      omega
    have := undF_spec (l := b.data.toList) (i0 := shwF (pcs b.data.toList) i1 n (pcs b.data.toList).length iA) (n := n) hkb (pcs b.data.toList).length _ 0 rfl hkk (by omega) (by omega)
    exact ⟨off_mono _ this.1, hoe _⟩
  rw [ha, hc]
  rw [hz] at huz
  rw [hz]
  clear ha hc hz
  have CS := fun w1 (h1 : EdAt w1 g b x y p q k m) => is_any h1
  have C := is_any h
  have HH := hid h
  obtain ⟨B, hB⟩ : ∃ B, lnB b x = B := ⟨_, rfl⟩
  rw [hB] at CU CL huz
  rw [hB]
  rw [hA1] at CL
  rw [hx1] at HH
  rw [hx1] at h CS CL
  have HCU := hid CU
  have HB1 := hid bB1
  clear bA bB bB1 eA eB hA1 p1 p2 CS CU h
  obtain ⟨R, hR⟩ : ∃ R, shwF (pcs b.data.toList) i1 n (pcs b.data.toList).length iA = R := ⟨_, rfl⟩
  rw [hR] at hsp huz
  rw [hR]
  have HR := hid hR
  have HSP := hid hsp
  have CU := HCU.out R (by omega)
  obtain ⟨U, hU⟩ : ∃ U, undE b.data.toList (off (pcs b.data.toList) R) B (n : Int) = U := ⟨_, rfl⟩
  rw [hU] at CU huz
  rw [hU]
  have HCU2 := hid CU
  clear hR hsp HCU CU hU hB HB1
  generalize pcs b.data.toList = P at *
  have HC := hid CC
  have HN := hid CN
  have HX := hid CX
  have HNX := hid hnx
  have HOS := hid hos
  have HOE := hid hoe
  have HOM := hid hom
  have HTL := hid htl
  clear CC CN CX hnx hos hoe hom htl
  have n1 : decide ((n : Int) < 1) = false := decide_eq_false (by omega)
  have n2 : decide ((16384 : Int) < (n : Int)) = false := decide_eq_false (by omega)
  have n3 : ¬ (16384 : Int) < (n : Int) := by omega
  have n4 : ¬ (n : Int) < 1 := by omega
  have n5 : ¬ n = 0 := by omega
  have n6 : ¬ n < 1 := by omega
  have n7 : ¬ 16384 < n := by omega
  go_enter Tryz.func17, Tryz.ntmps17
  go_wp2_with fail
  with_reducible refine C.mono ?_
  rintro e w1 ⟨rfl, hb1⟩
  have h1' := HH.out.on hb1
  obtain ⟨c0, c1, c2, c3, c4, c5, c6, c7⟩ := h1'.cells
  have lg := h1'.lt
  have hs1 := hb1.size
  clear C h1'
  go_wp2
  refine region_ext mixed (by kernel_rfl) ?_
  (repeat (go_big_quiet_step (fail)))
  refine wpQuiet_nil ?_
  intro w2 hb2
  have hB2 := hb1.trans (hb2.mono hs1)
  clear c0 c1 c2 c3 c4 c5 c6 c7 hb2
  go_wp2_with fail
  with_reducible refine (CL _).mono ?_
  rintro e w3 ⟨rfl, hb3⟩
  have hB3 := hB2.trans (hb3.mono hB2.size)
  have CC := HC.out (off P iA) (off P i1) w3
  rw [(HX.out iA i1 hmo hi1).1] at CC
  have q1 := HOM.out iA i1 hmo
  have q2 := HOE.out i1
  have q3 : (off P iA : Int) ≤ (off P i1 : Int) := by omega
  have q4 : (off P i1 : Int) ≤ (b.size : Int) := by omega
  clear CL hb3
  go_wp2_with fail
  with_reducible refine CC.mono ?_
  rintro e w4 ⟨rfl, hb4⟩
  have hB4 := hB3.trans (hb4.mono hB3.size)
  clear CC hb4 q1 q2 q3 q4
  go_wp2
  go_loopg [10, 12] P.length (fun gh v10 v12 wr => ∃ i f : Nat, v10 = .int .i64 (off P i : Int) ∧ v12 = .int .i64 ((toC P i1 - toC P i : Nat) : Int) ∧ i ≤ i1 ∧ P.length - i ≤ gh ∧ i1 ≤ f + i ∧ Hid (shwF P i1 n f i = R) ∧ Below w.heap.size w wr)
  case atStart => exact ⟨iA, P.length, rfl, rfl, hmo, by omega, by omega, HR, hB4⟩
  case round =>
    obtain ⟨i, f, rfl, rfl, hi, hgh, hf, HF, hbr⟩ := hrel
    by_cases hc : n ≤ toC P i1 - toC P i
    · have hlt : i < i1 := by
        false_or_by_contra
        have : i = i1 := by omega
        subst this
        omega
      obtain ⟨f, rfl⟩ : ∃ f', f = f' + 1 := ⟨f - 1, by omega⟩
      have hF := HF.out
      rw [shwF, if_pos hc] at hF
      have HF2 := hid hF
      have hil : i < P.length := by omega
      have C1 := HN.out (off P i) wr
      rw [HNX.out i hil] at C1
      unfold ansV at C1
      simp only at C1
      have C2 := fun w1 => HC.out (off P i) (off P (i + 1)) w1
      have hx2 := HX.out i (i + 1) (by omega) (by omega)
      have hx3 := HX.out (i + 1) i1 (by omega) (by omega)
      rw [hx2.1] at C2
      have o1 := HOS.out i hil
      have o2 := HOE.out (i + 1)
      have t1 := HTL.out i1
      have e1 : ((toC P i1 - toC P i : Nat) : Int) - ((toC P (i + 1) - toC P i : Nat) : Int) = ((toC P i1 - toC P (i + 1) : Nat) : Int) := by
        have := hx2.2
        have := hx3.2
        omega
      obtain ⟨a1, ha1⟩ : ∃ z, toC P i1 - toC P i = z := ⟨_, rfl⟩
      obtain ⟨a2, ha2⟩ : ∃ z, toC P (i + 1) - toC P i = z := ⟨_, rfl⟩
      obtain ⟨a3, ha3⟩ : ∃ z, toC P i1 - toC P (i + 1) = z := ⟨_, rfl⟩
      rw [ha1] at hc e1
      rw [ha2] at e1 C2
      rw [ha3] at e1
      rw [ha1]
      obtain ⟨z1, hz1⟩ : ∃ z, off P i = z := ⟨_, rfl⟩
      obtain ⟨z2, hz2⟩ : ∃ z, off P (i + 1) = z := ⟨_, rfl⟩
      rw [hz1] at C1 C2 o1
      rw [hz2] at C1 C2 o1 o2
      rw [hz1]
      have HA3 := hid ha3
      have HZ2 := hid hz2
      have q1 : (z1 : Int) ≤ (z2 : Int) := by omega
      have q2 : (z2 : Int) ≤ (b.size : Int) := by omega
      have q3 : (n : Int) ≤ (a1 : Int) := by omega
      have q4 : a1 ≤ 2 * P.length := by omega
      have q5 : a2 ≤ a1 := by omega
      have HE1 := hid e1
      have HC2 := hid C2
      clear hF HF hx2 hx3 o1 t1 e1 ha1 ha2 ha3 hz1 hz2 C2
      go_wp2_with fail
      with_reducible refine C1.mono ?_
      rintro e w5 ⟨rfl, hb5⟩
      have C2 := HC2.out w5
      have hbr5 := hbr.trans (hb5.mono hbr.size)
      clear C1 hb5
      go_wp2_with fail
      with_reducible refine C2.mono ?_
      rintro e w6 ⟨rfl, hb6⟩
      have hbr6 := hbr5.trans (hb6.mono hbr5.size)
      clear C2 hb6 HC2
      go_wp2
      go_roundg (P.length - (i + 1))
      case measure => omega
      case rel => exact ⟨i + 1, f, by rw [HZ2.out], by rw [HA3.out, ← HE1.out], by omega, by omega, by omega, HF2, hbr6⟩
    · have hF := HF.out
      have hiR : i = R := by
        cases f with
        | zero =>
          rw [shwF] at hF
          exact hF
        | succ f =>
          rw [shwF, if_neg hc] at hF
          exact hF
      subst hiR
      obtain ⟨a1, ha1⟩ : ∃ z, toC P i1 - toC P i = z := ⟨_, rfl⟩
      rw [ha1] at hc
      rw [ha1]
      obtain ⟨z1, hz1⟩ : ∃ z, off P i = z := ⟨_, rfl⟩
      rw [hz1] at huz
      have CU := HCU2.out
      rw [hz1] at CU
      rw [hz1]
      have q3 : ¬ (n : Int) ≤ (a1 : Int) := by omega
      have q4 : (z1 : Int) ≤ (U : Int) := by omega
      have q5 : (U : Int) ≤ (b.size : Int) := by omega
      have HA1 := hid ha1
      have HZ1 := hid hz1
      clear hF HF ha1 hz1 HSP HR
      go_wp2_with fail
      with_reducible refine (CU _).mono ?_
      rintro e w5 ⟨rfl, hb5⟩
      go_wp2
      refine bodyPost_ret (v := .tuple #[.string (b.extract z1 U), .int .i64 (a1 : Int), .int .i64 0]) (by simp [results, Tryz.results17, go_sem, *]) rfl ⟨by rw [HA1.out, HZ1.out], hbr.trans (hb5.mono hbr.size)⟩
end
end Go.Proofs.YtcfgpmmclijonaaGreatDoor
