/- Layer 3: cuts, and the piece at a place: both sides. (Printed by gen_h.py.) -/
import Derived.Test.YtoelmcmdiamnnaaDoorRuF
import Derived.Laws.Concat
namespace Go.Proofs.YtoelmcmdiamnnaaDoor
set_option linter.unusedVariables false
set_option linter.unusedSimpArgs false
set_option maxRecDepth 100000
open Go.RowKit Go.Lib

def cutC (s : ByteArray) (c : Int) (mark : ByteArray) : ByteArray × Bool :=
  if (total (pcs s.data.toList) : Int) ≤ c then (s, false)
  else if (total (pcs mark.data.toList) : Int) ≤ c then (fits s (c - total (pcs mark.data.toList)) ++ mark, true)
  else (fits s c, true)
theorem fits_size (s : ByteArray) (c : Int) : (fits s c).size ≤ s.size := by
  unfold fits
  rw [ByteArray.size_extract]
  omega
theorem cutE_eq (s : ByteArray) (cells : Int) (mark : ByteArray) : cutE s cells mark = cutC s (max cells 0) mark := rfl
set_option maxHeartbeats 4000000
set_option maxRecDepth 100000
theorem Cut_c (s mark : ByteArray) (cells c : Int) (hcc : (0 ≤ cells ∧ c = cells) ∨ (cells < 0 ∧ c = 0)) (hc1 : cells ≤ 9223372036854775807) (w : World) (hs : s.size ≤ 1000000000000000000) (hm : mark.size ≤ 1000000000000000000) :
    Calls Tryd.prog 18 #[.string s, .int .i64 cells, .string mark] w (Out (Great s.size ∨ Great mark.size) fun e w' => e = .returned (.tuple #[.string (cutC s c mark).1, .bool (cutC s c mark).2]) ∧ Below w.heap.size w w') := by
  have hq : cutC s c mark = if (total (pcs s.data.toList) : Int) ≤ c then (s, false) else if (total (pcs mark.data.toList) : Int) ≤ c then (fits s (c - total (pcs mark.data.toList)) ++ mark, true) else (fits s c, true) := rfl
  have hlen := pcs_len s.data.toList
  have hl2 : s.data.toList.length = s.size := by simp
  have hlm := pcs_len mark.data.toList
  have hl3 : mark.data.toList.length = mark.size := by simp
  have htm := total_le (pcs mark.data.toList)
  have CM := fun d h1 h2 x => most_any s d h1 h2 x hs
  have CS := fun x => pieces_any s x hs
  have CK := fun x => pieces_any mark x hm
  generalize pcs s.data.toList = PS at *
  generalize pcs mark.data.toList = PM at *
  have hPS : PS.length ≤ 1000000000000000000 := by omega
  have hPM : PM.length ≤ 1000000000000000000 := by omega
  have CT := fun (B : Nat) A c' x h1 h2 => total_any B PS A c' x h1 h2 hPS
  have CU := fun (B : Nat) A c' x h1 h2 => total_any B PM A c' x h1 h2 hPM
  have htS : (total PM : Int) ≤ 2000000000000000000 := by omega
  generalize total PS = tS at *
  generalize total PM = tM at *
  rw [hq]
  clear hq hlen hl2 hlm hl3 htm
  have HM := hid CM
  clear CM
  rcases hcc with ⟨k0, rfl⟩ | ⟨k0, rfl⟩
  · skip
    by_cases k1 : (tS : Int) ≤ c
    · rw [if_pos k1]
      go_enter Tryd.func18, Tryd.ntmps18
      go_wp2_with fail
      refine (CS _).mono ?_
      rintro e w1 (⟨A, c', rfl, hown, hb1⟩ | ⟨rfl, hG⟩)
      rotate_left
      · exact LetsOut.intro ⟨#[], []⟩ w (Or.inr ⟨rfl, .inl hG⟩)
      have hC := CT w1.heap.size A c' w1 (At.of_own hown) (Nat.le_refl _)
      clear hown
      go_wp2_with fail
      refine hC.mono ?_
      rintro e w2 ⟨rfl, hb2⟩
      have hbA := hb1.trans (hb2.mono hb1.size)
      clear hb1 hb2 hC CS CT
      go_wp2
      refine bodyPost_ret (v := .tuple #[.string (s), .bool false]) (by simp [results, Tryd.results18, go_sem]) rfl ?_
      exact .inl ⟨rfl, hbA⟩
    · rw [if_neg k1]
      by_cases k2 : (tM : Int) ≤ c
      · rw [if_pos k2]
        have hM := HM.out (c - (tM : Int)) (by omega) (by omega)
        have hfz := fits_size s (c - (tM : Int))
        generalize fits s (c - (tM : Int)) = F at *
        have hcat := fun x => run_string_add_sum (P := Tryd.prog) x F mark (by omega)
        clear HM hfz
        go_enter Tryd.func18, Tryd.ntmps18
        go_wp2_with fail
        refine (CS _).mono ?_
        rintro e w1 (⟨A, c', rfl, hown, hb1⟩ | ⟨rfl, hG⟩)
        rotate_left
        · exact LetsOut.intro ⟨#[], []⟩ w (Or.inr ⟨rfl, .inl hG⟩)
        have hC := CT w1.heap.size A c' w1 (At.of_own hown) (Nat.le_refl _)
        clear hown
        go_wp2_with fail
        refine hC.mono ?_
        rintro e w2 ⟨rfl, hb2⟩
        have hbA := hb1.trans (hb2.mono hb1.size)
        clear hb1 hb2 hC CS CT
        go_wp2_with fail
        refine (CK _).mono ?_
        rintro e w3 (⟨A', c2, rfl, hown, hb3⟩ | ⟨rfl, hG⟩)
        rotate_left
        · exact LetsOut.intro ⟨#[], []⟩ w (Or.inr ⟨rfl, .inr hG⟩)
        have hC := CU w3.heap.size A' c2 w3 (At.of_own hown) (Nat.le_refl _)
        clear hown
        go_wp2_with fail
        refine hC.mono ?_
        rintro e w4 ⟨rfl, hb4⟩
        have hbB := hbA.trans ((hb3.mono hbA.size).trans (hb4.mono (Nat.le_trans hbA.size hb3.size)))
        clear hb3 hb4 hC CK CU hbA
        go_wp2_with fail
        with_reducible refine (hM _).mono ?_
        rintro e w5 (⟨rfl, hb5⟩ | ⟨rfl, hG⟩)
        rotate_left
        · exact LetsOut.intro ⟨#[], []⟩ w (Or.inr ⟨rfl, .inl hG⟩)
        go_wp2
        skip
        refine bodyPost_ret (v := .tuple #[.string (F ++ mark), .bool true]) (by simp [results, Tryd.results18, go_sem]) rfl ?_
        exact .inl ⟨rfl, hbB.trans (hb5.mono hbB.size)⟩
      · rw [if_neg k2]
        have hM := HM.out (c) (by omega) (by omega)
        generalize fits s (c) = F at *
        clear HM
        go_enter Tryd.func18, Tryd.ntmps18
        go_wp2_with fail
        refine (CS _).mono ?_
        rintro e w1 (⟨A, c', rfl, hown, hb1⟩ | ⟨rfl, hG⟩)
        rotate_left
        · exact LetsOut.intro ⟨#[], []⟩ w (Or.inr ⟨rfl, .inl hG⟩)
        have hC := CT w1.heap.size A c' w1 (At.of_own hown) (Nat.le_refl _)
        clear hown
        go_wp2_with fail
        refine hC.mono ?_
        rintro e w2 ⟨rfl, hb2⟩
        have hbA := hb1.trans (hb2.mono hb1.size)
        clear hb1 hb2 hC CS CT
        go_wp2_with fail
        refine (CK _).mono ?_
        rintro e w3 (⟨A', c2, rfl, hown, hb3⟩ | ⟨rfl, hG⟩)
        rotate_left
        · exact LetsOut.intro ⟨#[], []⟩ w (Or.inr ⟨rfl, .inr hG⟩)
        have hC := CU w3.heap.size A' c2 w3 (At.of_own hown) (Nat.le_refl _)
        clear hown
        go_wp2_with fail
        refine hC.mono ?_
        rintro e w4 ⟨rfl, hb4⟩
        have hbB := hbA.trans ((hb3.mono hbA.size).trans (hb4.mono (Nat.le_trans hbA.size hb3.size)))
        clear hb3 hb4 hC CK CU hbA
        go_wp2_with fail
        with_reducible refine (hM _).mono ?_
        rintro e w5 (⟨rfl, hb5⟩ | ⟨rfl, hG⟩)
        rotate_left
        · exact LetsOut.intro ⟨#[], []⟩ w (Or.inr ⟨rfl, .inl hG⟩)
        go_wp2
        refine bodyPost_ret (v := .tuple #[.string (F), .bool true]) (by simp [results, Tryd.results18, go_sem]) rfl ?_
        exact .inl ⟨rfl, hbB.trans (hb5.mono hbB.size)⟩
  · skip
    by_cases k1 : (tS : Int) ≤ 0
    · rw [if_pos k1]
      go_enter Tryd.func18, Tryd.ntmps18
      go_wp2_with fail
      refine (CS _).mono ?_
      rintro e w1 (⟨A, c', rfl, hown, hb1⟩ | ⟨rfl, hG⟩)
      rotate_left
      · exact LetsOut.intro ⟨#[], []⟩ w (Or.inr ⟨rfl, .inl hG⟩)
      have hC := CT w1.heap.size A c' w1 (At.of_own hown) (Nat.le_refl _)
      clear hown
      go_wp2_with fail
      refine hC.mono ?_
      rintro e w2 ⟨rfl, hb2⟩
      have hbA := hb1.trans (hb2.mono hb1.size)
      clear hb1 hb2 hC CS CT
      go_wp2
      refine bodyPost_ret (v := .tuple #[.string (s), .bool false]) (by simp [results, Tryd.results18, go_sem]) rfl ?_
      exact .inl ⟨rfl, hbA⟩
    · rw [if_neg k1]
      by_cases k2 : (tM : Int) ≤ 0
      · rw [if_pos k2]
        obtain rfl : tM = 0 := by omega
        rw [show (0 : Int) - ((0 : Nat) : Int) = 0 by omega]
        have hM := HM.out (0) (by omega) (by omega)
        have hfz := fits_size s (0)
        generalize fits s (0) = F at *
        have hcat := fun x => run_string_add_sum (P := Tryd.prog) x F mark (by omega)
        clear HM hfz
        go_enter Tryd.func18, Tryd.ntmps18
        go_wp2_with fail
        refine (CS _).mono ?_
        rintro e w1 (⟨A, c', rfl, hown, hb1⟩ | ⟨rfl, hG⟩)
        rotate_left
        · exact LetsOut.intro ⟨#[], []⟩ w (Or.inr ⟨rfl, .inl hG⟩)
        have hC := CT w1.heap.size A c' w1 (At.of_own hown) (Nat.le_refl _)
        clear hown
        go_wp2_with fail
        refine hC.mono ?_
        rintro e w2 ⟨rfl, hb2⟩
        have hbA := hb1.trans (hb2.mono hb1.size)
        clear hb1 hb2 hC CS CT
        go_wp2_with fail
        refine (CK _).mono ?_
        rintro e w3 (⟨A', c2, rfl, hown, hb3⟩ | ⟨rfl, hG⟩)
        rotate_left
        · exact LetsOut.intro ⟨#[], []⟩ w (Or.inr ⟨rfl, .inr hG⟩)
        have hC := CU w3.heap.size A' c2 w3 (At.of_own hown) (Nat.le_refl _)
        clear hown
        go_wp2_with fail
        refine hC.mono ?_
        rintro e w4 ⟨rfl, hb4⟩
        have hbB := hbA.trans ((hb3.mono hbA.size).trans (hb4.mono (Nat.le_trans hbA.size hb3.size)))
        clear hb3 hb4 hC CK CU hbA
        go_wp2_with fail
        with_reducible refine (hM _).mono ?_
        rintro e w5 (⟨rfl, hb5⟩ | ⟨rfl, hG⟩)
        rotate_left
        · exact LetsOut.intro ⟨#[], []⟩ w (Or.inr ⟨rfl, .inl hG⟩)
        go_wp2
        skip
        refine bodyPost_ret (v := .tuple #[.string (F ++ mark), .bool true]) (by simp [results, Tryd.results18, go_sem]) rfl ?_
        exact .inl ⟨rfl, hbB.trans (hb5.mono hbB.size)⟩
      · rw [if_neg k2]
        have hM := HM.out (0) (by omega) (by omega)
        generalize fits s (0) = F at *
        clear HM
        go_enter Tryd.func18, Tryd.ntmps18
        go_wp2_with fail
        refine (CS _).mono ?_
        rintro e w1 (⟨A, c', rfl, hown, hb1⟩ | ⟨rfl, hG⟩)
        rotate_left
        · exact LetsOut.intro ⟨#[], []⟩ w (Or.inr ⟨rfl, .inl hG⟩)
        have hC := CT w1.heap.size A c' w1 (At.of_own hown) (Nat.le_refl _)
        clear hown
        go_wp2_with fail
        refine hC.mono ?_
        rintro e w2 ⟨rfl, hb2⟩
        have hbA := hb1.trans (hb2.mono hb1.size)
        clear hb1 hb2 hC CS CT
        go_wp2_with fail
        refine (CK _).mono ?_
        rintro e w3 (⟨A', c2, rfl, hown, hb3⟩ | ⟨rfl, hG⟩)
        rotate_left
        · exact LetsOut.intro ⟨#[], []⟩ w (Or.inr ⟨rfl, .inr hG⟩)
        have hC := CU w3.heap.size A' c2 w3 (At.of_own hown) (Nat.le_refl _)
        clear hown
        go_wp2_with fail
        refine hC.mono ?_
        rintro e w4 ⟨rfl, hb4⟩
        have hbB := hbA.trans ((hb3.mono hbA.size).trans (hb4.mono (Nat.le_trans hbA.size hb3.size)))
        clear hb3 hb4 hC CK CU hbA
        go_wp2_with fail
        with_reducible refine (hM _).mono ?_
        rintro e w5 (⟨rfl, hb5⟩ | ⟨rfl, hG⟩)
        rotate_left
        · exact LetsOut.intro ⟨#[], []⟩ w (Or.inr ⟨rfl, .inl hG⟩)
        go_wp2
        refine bodyPost_ret (v := .tuple #[.string (F), .bool true]) (by simp [results, Tryd.results18, go_sem]) rfl ?_
        exact .inl ⟨rfl, hbB.trans (hb5.mono hbB.size)⟩
theorem Cut_any (s mark : ByteArray) (cells : Int) (hc1 : cells ≤ 9223372036854775807) (w : World) (hs : s.size ≤ 1000000000000000000) (hm : mark.size ≤ 1000000000000000000) :
    Calls Tryd.prog 18 #[.string s, .int .i64 cells, .string mark] w (Out (Great s.size ∨ Great mark.size) fun e w' => e = .returned (.tuple #[.string (cutE s cells mark).1, .bool (cutE s cells mark).2]) ∧ Below w.heap.size w w') := by
  rw [cutE_eq]
  refine Cut_c s mark cells (max cells 0) ?_ hc1 w hs hm
  rcases Int.lt_or_le cells 0 with h | h
  · exact .inr ⟨h, by omega⟩
  · exact .inl ⟨h, by omega⟩
theorem rCut_c (s mark : ByteArray) (cells c : Int) (hcc : (0 ≤ cells ∧ c = cells) ∨ (cells < 0 ∧ c = 0)) (hc1 : cells ≤ 9223372036854775807) (w : World) (hs : s.size ≤ 1000000000000000000) (hm : mark.size ≤ 1000000000000000000) :
    Calls Tryd.prog 19 #[.string s, .int .i64 cells, .string mark] w (Out (Great s.size ∨ Great mark.size) fun e w' => e = .returned (.tuple #[.string (cutC s c mark).1, .bool (cutC s c mark).2]) ∧ Below w.heap.size w w') := by
  have hq : cutC s c mark = if (total (pcs s.data.toList) : Int) ≤ c then (s, false) else if (total (pcs mark.data.toList) : Int) ≤ c then (fits s (c - total (pcs mark.data.toList)) ++ mark, true) else (fits s c, true) := rfl
  have hlen := pcs_len s.data.toList
  have hl2 : s.data.toList.length = s.size := by simp
  have hlm := pcs_len mark.data.toList
  have hl3 : mark.data.toList.length = mark.size := by simp
  have htm := total_le (pcs mark.data.toList)
  have CM := fun d h1 h2 x => rfits_any s d h1 h2 x hs
  have CS := fun x => rCells_any s x hs
  have CK := fun x => rCells_any mark x hm
  have htS : (total (pcs mark.data.toList) : Int) ≤ 2000000000000000000 := by omega
  generalize total (pcs s.data.toList) = tS at *
  generalize total (pcs mark.data.toList) = tM at *
  rw [hq]
  clear hq hlen hl2 hlm hl3 htm
  have HM := hid CM
  clear CM
  rcases hcc with ⟨k0, rfl⟩ | ⟨k0, rfl⟩
  · skip
    by_cases k1 : (tS : Int) ≤ c
    · rw [if_pos k1]
      go_enter Tryd.func19, Tryd.ntmps19
      go_wp2_with fail
      refine (CS _).mono ?_
      rintro e w1 (⟨rfl, hb1⟩ | ⟨rfl, hG⟩)
      rotate_left
      · exact LetsOut.intro ⟨#[], []⟩ w (Or.inr ⟨rfl, .inl hG⟩)
      go_wp2_with fail
      refine (CK _).mono ?_
      rintro e w2 (⟨rfl, hb2⟩ | ⟨rfl, hG⟩)
      rotate_left
      · exact LetsOut.intro ⟨#[], []⟩ w (Or.inr ⟨rfl, .inr hG⟩)
      have hbA := hb1.trans (hb2.mono hb1.size)
      clear hb1 hb2 CS CK
      go_wp2
      refine bodyPost_ret (v := .tuple #[.string (s), .bool false]) (by simp [results, Tryd.results19, go_sem]) rfl ?_
      exact .inl ⟨rfl, hbA⟩
    · rw [if_neg k1]
      by_cases k2 : (tM : Int) ≤ c
      · rw [if_pos k2]
        have hM := HM.out (c - (tM : Int)) (by omega) (by omega)
        have hfz := fits_size s (c - (tM : Int))
        generalize fits s (c - (tM : Int)) = F at *
        have hcat := fun x => run_string_add_sum (P := Tryd.prog) x F mark (by omega)
        clear HM hfz
        go_enter Tryd.func19, Tryd.ntmps19
        go_wp2_with fail
        refine (CS _).mono ?_
        rintro e w1 (⟨rfl, hb1⟩ | ⟨rfl, hG⟩)
        rotate_left
        · exact LetsOut.intro ⟨#[], []⟩ w (Or.inr ⟨rfl, .inl hG⟩)
        go_wp2_with fail
        refine (CK _).mono ?_
        rintro e w2 (⟨rfl, hb2⟩ | ⟨rfl, hG⟩)
        rotate_left
        · exact LetsOut.intro ⟨#[], []⟩ w (Or.inr ⟨rfl, .inr hG⟩)
        have hbA := hb1.trans (hb2.mono hb1.size)
        clear hb1 hb2 CS CK
        have hbB := hbA
        clear hbA
        go_wp2_with fail
        with_reducible refine (hM _).mono ?_
        rintro e w5 (⟨rfl, hb5⟩ | ⟨rfl, hG⟩)
        rotate_left
        · exact LetsOut.intro ⟨#[], []⟩ w (Or.inr ⟨rfl, .inl hG⟩)
        go_wp2
        skip
        refine bodyPost_ret (v := .tuple #[.string (F ++ mark), .bool true]) (by simp [results, Tryd.results19, go_sem]) rfl ?_
        exact .inl ⟨rfl, hbB.trans (hb5.mono hbB.size)⟩
      · rw [if_neg k2]
        have hM := HM.out (c) (by omega) (by omega)
        generalize fits s (c) = F at *
        clear HM
        go_enter Tryd.func19, Tryd.ntmps19
        go_wp2_with fail
        refine (CS _).mono ?_
        rintro e w1 (⟨rfl, hb1⟩ | ⟨rfl, hG⟩)
        rotate_left
        · exact LetsOut.intro ⟨#[], []⟩ w (Or.inr ⟨rfl, .inl hG⟩)
        go_wp2_with fail
        refine (CK _).mono ?_
        rintro e w2 (⟨rfl, hb2⟩ | ⟨rfl, hG⟩)
        rotate_left
        · exact LetsOut.intro ⟨#[], []⟩ w (Or.inr ⟨rfl, .inr hG⟩)
        have hbA := hb1.trans (hb2.mono hb1.size)
        clear hb1 hb2 CS CK
        have hbB := hbA
        clear hbA
        go_wp2_with fail
        with_reducible refine (hM _).mono ?_
        rintro e w5 (⟨rfl, hb5⟩ | ⟨rfl, hG⟩)
        rotate_left
        · exact LetsOut.intro ⟨#[], []⟩ w (Or.inr ⟨rfl, .inl hG⟩)
        go_wp2
        refine bodyPost_ret (v := .tuple #[.string (F), .bool true]) (by simp [results, Tryd.results19, go_sem]) rfl ?_
        exact .inl ⟨rfl, hbB.trans (hb5.mono hbB.size)⟩
  · skip
    by_cases k1 : (tS : Int) ≤ 0
    · rw [if_pos k1]
      go_enter Tryd.func19, Tryd.ntmps19
      go_wp2_with fail
      refine (CS _).mono ?_
      rintro e w1 (⟨rfl, hb1⟩ | ⟨rfl, hG⟩)
      rotate_left
      · exact LetsOut.intro ⟨#[], []⟩ w (Or.inr ⟨rfl, .inl hG⟩)
      go_wp2_with fail
      refine (CK _).mono ?_
      rintro e w2 (⟨rfl, hb2⟩ | ⟨rfl, hG⟩)
      rotate_left
      · exact LetsOut.intro ⟨#[], []⟩ w (Or.inr ⟨rfl, .inr hG⟩)
      have hbA := hb1.trans (hb2.mono hb1.size)
      clear hb1 hb2 CS CK
      go_wp2
      refine bodyPost_ret (v := .tuple #[.string (s), .bool false]) (by simp [results, Tryd.results19, go_sem]) rfl ?_
      exact .inl ⟨rfl, hbA⟩
    · rw [if_neg k1]
      by_cases k2 : (tM : Int) ≤ 0
      · rw [if_pos k2]
        obtain rfl : tM = 0 := by omega
        rw [show (0 : Int) - ((0 : Nat) : Int) = 0 by omega]
        have hM := HM.out (0) (by omega) (by omega)
        have hfz := fits_size s (0)
        generalize fits s (0) = F at *
        have hcat := fun x => run_string_add_sum (P := Tryd.prog) x F mark (by omega)
        clear HM hfz
        go_enter Tryd.func19, Tryd.ntmps19
        go_wp2_with fail
        refine (CS _).mono ?_
        rintro e w1 (⟨rfl, hb1⟩ | ⟨rfl, hG⟩)
        rotate_left
        · exact LetsOut.intro ⟨#[], []⟩ w (Or.inr ⟨rfl, .inl hG⟩)
        go_wp2_with fail
        refine (CK _).mono ?_
        rintro e w2 (⟨rfl, hb2⟩ | ⟨rfl, hG⟩)
        rotate_left
        · exact LetsOut.intro ⟨#[], []⟩ w (Or.inr ⟨rfl, .inr hG⟩)
        have hbA := hb1.trans (hb2.mono hb1.size)
        clear hb1 hb2 CS CK
        have hbB := hbA
        clear hbA
        go_wp2_with fail
        with_reducible refine (hM _).mono ?_
        rintro e w5 (⟨rfl, hb5⟩ | ⟨rfl, hG⟩)
        rotate_left
        · exact LetsOut.intro ⟨#[], []⟩ w (Or.inr ⟨rfl, .inl hG⟩)
        go_wp2
        skip
        refine bodyPost_ret (v := .tuple #[.string (F ++ mark), .bool true]) (by simp [results, Tryd.results19, go_sem]) rfl ?_
        exact .inl ⟨rfl, hbB.trans (hb5.mono hbB.size)⟩
      · rw [if_neg k2]
        have hM := HM.out (0) (by omega) (by omega)
        generalize fits s (0) = F at *
        clear HM
        go_enter Tryd.func19, Tryd.ntmps19
        go_wp2_with fail
        refine (CS _).mono ?_
        rintro e w1 (⟨rfl, hb1⟩ | ⟨rfl, hG⟩)
        rotate_left
        · exact LetsOut.intro ⟨#[], []⟩ w (Or.inr ⟨rfl, .inl hG⟩)
        go_wp2_with fail
        refine (CK _).mono ?_
        rintro e w2 (⟨rfl, hb2⟩ | ⟨rfl, hG⟩)
        rotate_left
        · exact LetsOut.intro ⟨#[], []⟩ w (Or.inr ⟨rfl, .inr hG⟩)
        have hbA := hb1.trans (hb2.mono hb1.size)
        clear hb1 hb2 CS CK
        have hbB := hbA
        clear hbA
        go_wp2_with fail
        with_reducible refine (hM _).mono ?_
        rintro e w5 (⟨rfl, hb5⟩ | ⟨rfl, hG⟩)
        rotate_left
        · exact LetsOut.intro ⟨#[], []⟩ w (Or.inr ⟨rfl, .inl hG⟩)
        go_wp2
        refine bodyPost_ret (v := .tuple #[.string (F), .bool true]) (by simp [results, Tryd.results19, go_sem]) rfl ?_
        exact .inl ⟨rfl, hbB.trans (hb5.mono hbB.size)⟩
theorem rCut_any (s mark : ByteArray) (cells : Int) (hc1 : cells ≤ 9223372036854775807) (w : World) (hs : s.size ≤ 1000000000000000000) (hm : mark.size ≤ 1000000000000000000) :
    Calls Tryd.prog 19 #[.string s, .int .i64 cells, .string mark] w (Out (Great s.size ∨ Great mark.size) fun e w' => e = .returned (.tuple #[.string (cutE s cells mark).1, .bool (cutE s cells mark).2]) ∧ Below w.heap.size w w') := by
  rw [cutE_eq]
  refine rCut_c s mark cells (max cells 0) ?_ hc1 w hs hm
  rcases Int.lt_or_le cells 0 with h | h
  · exact .inr ⟨h, by omega⟩
  · exact .inl ⟨h, by omega⟩
end Go.Proofs.YtoelmcmdiamnnaaDoor
