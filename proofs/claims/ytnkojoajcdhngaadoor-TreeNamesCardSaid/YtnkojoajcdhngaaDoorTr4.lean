/- Layer 8, the reference: Node: may a node be? Printed by gen_tr4.py. -/
import Derived.Test.YtnkojoajcdhngaaDoorTr3
namespace Go.Proofs.YtnkojoajcdhngaaDoor
set_option linter.unusedVariables false
set_option linter.unusedSimpArgs false
set_option maxRecDepth 100000
open Go.RowKit Go.Shelf Go.Lib
set_option maxRecDepth 100000
set_option maxHeartbeats 16000000

theorem rNode_any {B : Nat} (n : Nd) (hn : n.ok) (Aw Ak : Option Addr) (cw ck : Nat) (w : World) (hT : Tabs w) (hA : At B w Aw (wrs n.wraps)) (hB : B ≤ w.heap.size) :
    Calls Tryd.prog 84 #[.agg (ndC n (.slice Aw n.wraps.length cw) (.slice Ak n.kids.length ck)).toArray] w fun e w' => e = .returned (.bool (nodeB n)) ∧ Below w.heap.size w w' := by
  obtain ⟨K, hK⟩ : ∃ z, (decide (1 ≤ n.kind) && decide (n.kind ≤ 10)) = z := ⟨_, rfl⟩
  obtain ⟨T1, hT1⟩ : ∃ z, okT n.name 64 = z := ⟨_, rfl⟩
  obtain ⟨T2, hT2⟩ : ∃ z, okT n.cls 64 = z := ⟨_, rfl⟩
  obtain ⟨T3, hT3⟩ : ∃ z, okT n.txt 65536 = z := ⟨_, rfl⟩
  obtain ⟨O, hO⟩ : ∃ z, (decide (-1 ≤ n.order) && decide (n.order ≤ 1048576)) = z := ⟨_, rfl⟩
  obtain ⟨WL, hWL⟩ : ∃ z, decide (n.wraps.length ≤ 16) = z := ⟨_, rfl⟩
  obtain ⟨AW, hAW⟩ : ∃ z, allW n.wraps = z := ⟨_, rfl⟩
  obtain ⟨M1, hM1⟩ : ∃ z, mostB n.mw n.xw = z := ⟨_, rfl⟩
  obtain ⟨M2, hM2⟩ : ∃ z, mostB n.mh n.xh = z := ⟨_, rfl⟩
  obtain ⟨F1, hF1⟩ : ∃ z, frB 16384 n.mw = z := ⟨_, rfl⟩
  have CF1 := fun w1 => from_any n.mw 16384 w1
  rw [hF1] at CF1
  obtain ⟨F2, hF2⟩ : ∃ z, frB 16384 n.mh = z := ⟨_, rfl⟩
  have CF2 := fun w1 => from_any n.mh 16384 w1
  rw [hF2] at CF2
  obtain ⟨F3, hF3⟩ : ∃ z, frB 16384 n.xw = z := ⟨_, rfl⟩
  have CF3 := fun w1 => from_any n.xw 16384 w1
  rw [hF3] at CF3
  obtain ⟨F4, hF4⟩ : ∃ z, frB 16384 n.xh = z := ⟨_, rfl⟩
  have CF4 := fun w1 => from_any n.xh 16384 w1
  rw [hF4] at CF4
  obtain ⟨F5, hF5⟩ : ∃ z, frB 16384 n.grow = z := ⟨_, rfl⟩
  have CF5 := fun w1 => from_any n.grow 16384 w1
  rw [hF5] at CF5
  obtain ⟨F6, hF6⟩ : ∃ z, frB 64 n.columns = z := ⟨_, rfl⟩
  have CF6 := fun w1 => from_any n.columns 64 w1
  rw [hF6] at CF6
  obtain ⟨F7, hF7⟩ : ∃ z, frB 64 n.span = z := ⟨_, rfl⟩
  have CF7 := fun w1 => from_any n.span 64 w1
  rw [hF7] at CF7
  obtain ⟨F8, hF8⟩ : ∃ z, frB 16384 n.gap = z := ⟨_, rfl⟩
  have CF8 := fun w1 => from_any n.gap 16384 w1
  rw [hF8] at CF8
  obtain ⟨F9, hF9⟩ : ∃ z, frB 1048576 n.ox = z := ⟨_, rfl⟩
  have CF9 := fun w1 => from_any n.ox 1048576 w1
  rw [hF9] at CF9
  obtain ⟨F10, hF10⟩ : ∃ z, frB 1048576 n.oy = z := ⟨_, rfl⟩
  have CF10 := fun w1 => from_any n.oy 1048576 w1
  rw [hF10] at CF10
  have HE := hid (show nodeB n = (K && (T1 && (T2 && T3)) && ((F1 && (F2 && (F3 && (F4 && (F5 && (F8 && true)))))) && (M1 && M2)) && (O && ((F9 && (F10 && true)) && ((F6 && (F7 && true)) && WL))) && AW) by
    unfold nodeB
    simp only [List.all_cons, List.all_nil]
    rw [hK, hT1, hT2, hT3, hM1, hM2, hO, hWL, hAW, hF1, hF2, hF3, hF4, hF5, hF6, hF7, hF8, hF9, hF10])
  obtain ⟨W, hW⟩ : ∃ W, w.alloc (.cells (ndC n (.slice Aw n.wraps.length cw) (.slice Ak n.kids.length ck)).toArray 39) = W := ⟨_, rfl⟩
  have hBW : Below w.heap.size w W := by
    rw [← hW]
    exact (Below.refl _ _).alloc (Nat.le_refl _) _
  have hN : NBox w.heap.size n (.slice Aw n.wraps.length cw) (.slice Ak n.kids.length ck) W := by
    rw [← hW]
    exact World.alloc_heap_new _ _
  have hAW2 : At B W Aw (wrs n.wraps) := hA.below (hBW.mono hB)
  have hBs := hBW.size
  have CT1 := fun w1 (h : Below W.heap.size W w1) => rttext_any n.name 64 w1 (tabs_on hT (hBW.trans (h.mono hBW.size))) hn.2.1
  have CT2 := fun w1 (h : Below W.heap.size W w1) => rttext_any n.cls 64 w1 (tabs_on hT (hBW.trans (h.mono hBW.size))) hn.2.2.1
  have CT3 := fun w1 (h : Below W.heap.size W w1) => rttext_any n.txt 65536 w1 (tabs_on hT (hBW.trans (h.mono hBW.size))) hn.2.2.2.1
  rw [hT1] at CT1
  rw [hT2] at CT2
  rw [hT3] at CT3
  simp only [ndC] at hW
  have HW := hid hW
  have HN := hid hN
  have HBW := hid hBW
  have HCT1 := hid CT1
  have HCT2 := hid CT2
  have HCT3 := hid CT3
  have HK := hid hK
  have HO := hid hO
  have HWL := hid hWL
  have HAW := hid hAW
  have HM1 := hid hM1
  have HM2 := hid hM2
  have HT := hid hT
  have HA2 := hid hAW2
  have HBB := hid (show B ≤ W.heap.size by omega)
  have HOK := hid hn.2.2.2.2.1
  have hwl := hn.2.2.2.2.2.1
  clear hK hT1 hT2 hT3 hO hWL hAW hM1 hM2 hW hBW hN hA hAW2 hBs CT1 CT2 CT3 hT hB hF1 hF2 hF3 hF4 hF5 hF6 hF7 hF8 hF9 hF10
  simp only [ndC]
  go_enter Tryd.func84, Tryd.ntmps84
  go_upto_region 1 with fail
  rw [HW.out]
  have HB := hid (Below.refl W.heap.size W)
  obtain ⟨k0, k1, k2, k3, k4, k5, k6, k7, k8, k9, k10, k11, k12, k13, k14, k15, k16, k17, k18⟩ := HN.out.cells
  cases K with
  | false =>
    have hk := HK.out
    by_cases q1 : n.kind < 1
    · go_wp2
      refine bodyPost_ret (v := .bool false) (by simp [results, Tryd.results84, go_sem, *]) rfl ⟨by rw [HE.out]; simp, HBW.out.trans (HB.out.mono HBW.out.size)⟩
    · have q2 : 10 < n.kind := by
        false_or_by_contra
        rw [decide_eq_true (by omega), decide_eq_true (by omega)] at hk
        cases hk
      clear hk
      go_wp2
      refine bodyPost_ret (v := .bool false) (by simp [results, Tryd.results84, go_sem, *]) rfl ⟨by rw [HE.out]; simp, HBW.out.trans (HB.out.mono HBW.out.size)⟩
  | true =>
  have hk := HK.out
  rw [Bool.and_eq_true, decide_eq_true_eq, decide_eq_true_eq] at hk
  obtain ⟨hk1, hk2⟩ := hk
  have q1 : ¬ n.kind < 1 := by omega
  have q2 : ¬ 10 < n.kind := by omega
  clear hk1 hk2
  go_wp2_with fail
  with_reducible refine (HCT1.out _ HB.out).mono ?_
  rintro e wz ⟨rfl, hbz⟩
  have HB2 := hid (HB.out.trans (hbz.mono HB.out.size))
  clear HB hbz k0 k1 k2 k3 k4 k5 k6 k7 k8 k9 k10 k11 k12 k13 k14 k15 k16 k17 k18
  have HB := HB2
  clear HB2
  obtain ⟨k0, k1, k2, k3, k4, k5, k6, k7, k8, k9, k10, k11, k12, k13, k14, k15, k16, k17, k18⟩ := (HN.out.on HB.out).cells
  cases T1 with
  | false =>
    go_wp2
    refine bodyPost_ret (v := .bool false) (by simp [results, Tryd.results84, go_sem, *]) rfl ⟨by rw [HE.out]; simp, HBW.out.trans (HB.out.mono HBW.out.size)⟩
  | true =>
  generalize wz = wqT1 at *
  go_wp2_with fail
  with_reducible refine (HCT2.out _ HB.out).mono ?_
  rintro e wz ⟨rfl, hbz⟩
  have HB2 := hid (HB.out.trans (hbz.mono HB.out.size))
  clear HB hbz k0 k1 k2 k3 k4 k5 k6 k7 k8 k9 k10 k11 k12 k13 k14 k15 k16 k17 k18
  have HB := HB2
  clear HB2
  obtain ⟨k0, k1, k2, k3, k4, k5, k6, k7, k8, k9, k10, k11, k12, k13, k14, k15, k16, k17, k18⟩ := (HN.out.on HB.out).cells
  cases T2 with
  | false =>
    go_wp2
    refine bodyPost_ret (v := .bool false) (by simp [results, Tryd.results84, go_sem, *]) rfl ⟨by rw [HE.out]; simp, HBW.out.trans (HB.out.mono HBW.out.size)⟩
  | true =>
  generalize wz = wqT2 at *
  go_wp2_with fail
  with_reducible refine (HCT3.out _ HB.out).mono ?_
  rintro e wz ⟨rfl, hbz⟩
  have HB2 := hid (HB.out.trans (hbz.mono HB.out.size))
  clear HB hbz k0 k1 k2 k3 k4 k5 k6 k7 k8 k9 k10 k11 k12 k13 k14 k15 k16 k17 k18
  have HB := HB2
  clear HB2
  obtain ⟨k0, k1, k2, k3, k4, k5, k6, k7, k8, k9, k10, k11, k12, k13, k14, k15, k16, k17, k18⟩ := (HN.out.on HB.out).cells
  cases T3 with
  | false =>
    go_wp2
    refine bodyPost_ret (v := .bool false) (by simp [results, Tryd.results84, go_sem, *]) rfl ⟨by rw [HE.out]; simp, HBW.out.trans (HB.out.mono HBW.out.size)⟩
  | true =>
  generalize wz = wqT3 at *
  go_wp2_with fail
  with_reducible refine (CF1 _).mono ?_
  rintro e wz ⟨rfl, hbz⟩
  have HB2 := hid (HB.out.trans (hbz.mono HB.out.size))
  clear HB hbz k0 k1 k2 k3 k4 k5 k6 k7 k8 k9 k10 k11 k12 k13 k14 k15 k16 k17 k18
  have HB := HB2
  clear HB2
  obtain ⟨k0, k1, k2, k3, k4, k5, k6, k7, k8, k9, k10, k11, k12, k13, k14, k15, k16, k17, k18⟩ := (HN.out.on HB.out).cells
  cases F1 with
  | false =>
    go_wp2
    refine bodyPost_ret (v := .bool false) (by simp [results, Tryd.results84, go_sem, *]) rfl ⟨by rw [HE.out]; simp, HBW.out.trans (HB.out.mono HBW.out.size)⟩
  | true =>
  generalize wz = wqF1 at *
  go_wp2_with fail
  with_reducible refine (CF2 _).mono ?_
  rintro e wz ⟨rfl, hbz⟩
  have HB2 := hid (HB.out.trans (hbz.mono HB.out.size))
  clear HB hbz k0 k1 k2 k3 k4 k5 k6 k7 k8 k9 k10 k11 k12 k13 k14 k15 k16 k17 k18
  have HB := HB2
  clear HB2
  obtain ⟨k0, k1, k2, k3, k4, k5, k6, k7, k8, k9, k10, k11, k12, k13, k14, k15, k16, k17, k18⟩ := (HN.out.on HB.out).cells
  cases F2 with
  | false =>
    go_wp2
    refine bodyPost_ret (v := .bool false) (by simp [results, Tryd.results84, go_sem, *]) rfl ⟨by rw [HE.out]; simp, HBW.out.trans (HB.out.mono HBW.out.size)⟩
  | true =>
  generalize wz = wqF2 at *
  go_wp2_with fail
  with_reducible refine (CF3 _).mono ?_
  rintro e wz ⟨rfl, hbz⟩
  have HB2 := hid (HB.out.trans (hbz.mono HB.out.size))
  clear HB hbz k0 k1 k2 k3 k4 k5 k6 k7 k8 k9 k10 k11 k12 k13 k14 k15 k16 k17 k18
  have HB := HB2
  clear HB2
  obtain ⟨k0, k1, k2, k3, k4, k5, k6, k7, k8, k9, k10, k11, k12, k13, k14, k15, k16, k17, k18⟩ := (HN.out.on HB.out).cells
  cases F3 with
  | false =>
    go_wp2
    refine bodyPost_ret (v := .bool false) (by simp [results, Tryd.results84, go_sem, *]) rfl ⟨by rw [HE.out]; simp, HBW.out.trans (HB.out.mono HBW.out.size)⟩
  | true =>
  generalize wz = wqF3 at *
  go_wp2_with fail
  with_reducible refine (CF4 _).mono ?_
  rintro e wz ⟨rfl, hbz⟩
  have HB2 := hid (HB.out.trans (hbz.mono HB.out.size))
  clear HB hbz k0 k1 k2 k3 k4 k5 k6 k7 k8 k9 k10 k11 k12 k13 k14 k15 k16 k17 k18
  have HB := HB2
  clear HB2
  obtain ⟨k0, k1, k2, k3, k4, k5, k6, k7, k8, k9, k10, k11, k12, k13, k14, k15, k16, k17, k18⟩ := (HN.out.on HB.out).cells
  cases F4 with
  | false =>
    go_wp2
    refine bodyPost_ret (v := .bool false) (by simp [results, Tryd.results84, go_sem, *]) rfl ⟨by rw [HE.out]; simp, HBW.out.trans (HB.out.mono HBW.out.size)⟩
  | true =>
  generalize wz = wqF4 at *
  obtain ⟨X5, hX5⟩ : ∃ z, (!(M1 && M2)) = z := ⟨_, rfl⟩
  have HX5 := hid hX5
  clear hX5
  go_upto_region 5 with fail
  go_cut [83] from 56 to 82 (fun v wx => v = .bool X5 ∧ wx = wqF4)
  case first =>
    have a1 := HM1.out
    have a2 := HM2.out
    have a3 := HX5.out
    unfold mostB at a1 a2
    by_cases p1 : n.xw = 0
    · rw [decide_eq_true p1, Bool.true_or] at a1
      subst a1
      have p1b : (n.xw == 0) = true := beq_iff_eq.2 p1
      have p1c : (n.xw != 0) = false := by unfold bne; rw [p1b]; rfl
      clear p1
      by_cases p2 : n.xh = 0
      · rw [decide_eq_true p2, Bool.true_or] at a2
        subst a2
        have p2b : (n.xh == 0) = true := beq_iff_eq.2 p2
        have p2c : (n.xh != 0) = false := by unfold bne; rw [p2b]; rfl
        clear p2
        simp at a3
        subst a3
        go_wp2
        go_meet
        exact ⟨rfl, rfl⟩
      · rw [decide_eq_false p2, Bool.false_or] at a2
        have p2b : (n.xh == 0) = false := beq_eq_false_iff_ne.2 p2
        have p2d : (n.xh != 0) = true := by unfold bne; rw [p2b]; rfl
        by_cases p3 : n.mh ≤ n.xh
        · have p4 : ¬ n.xh < n.mh := by omega
          rw [decide_eq_true p3] at a2
          subst a2
          simp at a3
          subst a3
          go_wp2
          go_meet
          exact ⟨rfl, rfl⟩
        · have p4 : n.xh < n.mh := by omega
          rw [decide_eq_false p3] at a2
          subst a2
          simp at a3
          subst a3
          go_wp2
          go_meet
          exact ⟨rfl, rfl⟩
    · rw [decide_eq_false p1, Bool.false_or] at a1
      have p1b : (n.xw == 0) = false := beq_eq_false_iff_ne.2 p1
      by_cases p5 : n.mw ≤ n.xw
      · have p6 : ¬ n.xw < n.mw := by omega
        rw [decide_eq_true p5] at a1
        subst a1
        by_cases p2 : n.xh = 0
        · rw [decide_eq_true p2, Bool.true_or] at a2
          subst a2
          have p2b : (n.xh == 0) = true := beq_iff_eq.2 p2
          have p2c : (n.xh != 0) = false := by unfold bne; rw [p2b]; rfl
          clear p2
          simp at a3
          subst a3
          go_wp2
          go_meet
          exact ⟨rfl, rfl⟩
        · rw [decide_eq_false p2, Bool.false_or] at a2
          have p2b : (n.xh == 0) = false := beq_eq_false_iff_ne.2 p2
          have p2d : (n.xh != 0) = true := by unfold bne; rw [p2b]; rfl
          by_cases p3 : n.mh ≤ n.xh
          · have p4 : ¬ n.xh < n.mh := by omega
            rw [decide_eq_true p3] at a2
            subst a2
            simp at a3
            subst a3
            go_wp2
            go_meet
            exact ⟨rfl, rfl⟩
          · have p4 : n.xh < n.mh := by omega
            rw [decide_eq_false p3] at a2
            subst a2
            simp at a3
            subst a3
            go_wp2
            go_meet
            exact ⟨rfl, rfl⟩
      · have p6 : n.xw < n.mw := by omega
        rw [decide_eq_false p5] at a1
        subst a1
        simp at a3
        subst a3
        go_wp2
        go_meet
        exact ⟨rfl, rfl⟩
  case rest =>
  obtain ⟨rfl, rfl⟩ := hcut
  generalize wc = wqF4 at *
  cases X5 with
  | true =>
    have a3 := HX5.out
    have hf : (M1 && M2) = false := by cases M1 <;> cases M2 <;> first | rfl | cases a3
    have HF := hid hf
    clear a3 hf
    go_wp2
    refine bodyPost_ret (v := .bool false) (by simp [results, Tryd.results84, go_sem, *]) rfl ⟨by rw [HE.out, HF.out]; simp, HBW.out.trans (HB.out.mono HBW.out.size)⟩
  | false =>
  have a3 := HX5.out
  have hf : M1 = true ∧ M2 = true := by cases M1 <;> cases M2 <;> first | exact ⟨rfl, rfl⟩ | cases a3
  obtain ⟨hf1, hf2⟩ := hf
  subst hf1
  subst hf2
  clear a3
  go_wp2_with fail
  with_reducible refine (CF5 _).mono ?_
  rintro e wz ⟨rfl, hbz⟩
  have HB2 := hid (HB.out.trans (hbz.mono HB.out.size))
  clear HB hbz k0 k1 k2 k3 k4 k5 k6 k7 k8 k9 k10 k11 k12 k13 k14 k15 k16 k17 k18
  have HB := HB2
  clear HB2
  obtain ⟨k0, k1, k2, k3, k4, k5, k6, k7, k8, k9, k10, k11, k12, k13, k14, k15, k16, k17, k18⟩ := (HN.out.on HB.out).cells
  cases F5 with
  | false =>
    go_wp2
    refine bodyPost_ret (v := .bool false) (by simp [results, Tryd.results84, go_sem, *]) rfl ⟨by rw [HE.out]; simp, HBW.out.trans (HB.out.mono HBW.out.size)⟩
  | true =>
  generalize wz = wqF5 at *
  cases O with
  | false =>
    have hk := HO.out
    by_cases p1 : n.order < -1
    · go_wp2
      refine bodyPost_ret (v := .bool false) (by simp [results, Tryd.results84, go_sem, *]) rfl ⟨by rw [HE.out]; simp, HBW.out.trans (HB.out.mono HBW.out.size)⟩
    · have p2 : 1048576 < n.order := by
        false_or_by_contra
        rw [decide_eq_true (by omega), decide_eq_true (by omega)] at hk
        cases hk
      clear hk
      go_wp2
      refine bodyPost_ret (v := .bool false) (by simp [results, Tryd.results84, go_sem, *]) rfl ⟨by rw [HE.out]; simp, HBW.out.trans (HB.out.mono HBW.out.size)⟩
  | true =>
  have hk := HO.out
  rw [Bool.and_eq_true, decide_eq_true_eq, decide_eq_true_eq] at hk
  obtain ⟨hk1, hk2⟩ := hk
  have p1 : ¬ n.order < -1 := by omega
  have p2 : ¬ 1048576 < n.order := by omega
  clear hk1 hk2
  go_wp2_with fail
  with_reducible refine (CF6 _).mono ?_
  rintro e wz ⟨rfl, hbz⟩
  have HB2 := hid (HB.out.trans (hbz.mono HB.out.size))
  clear HB hbz k0 k1 k2 k3 k4 k5 k6 k7 k8 k9 k10 k11 k12 k13 k14 k15 k16 k17 k18
  have HB := HB2
  clear HB2
  obtain ⟨k0, k1, k2, k3, k4, k5, k6, k7, k8, k9, k10, k11, k12, k13, k14, k15, k16, k17, k18⟩ := (HN.out.on HB.out).cells
  cases F6 with
  | false =>
    go_wp2
    refine bodyPost_ret (v := .bool false) (by simp [results, Tryd.results84, go_sem, *]) rfl ⟨by rw [HE.out]; simp, HBW.out.trans (HB.out.mono HBW.out.size)⟩
  | true =>
  generalize wz = wqF6 at *
  go_wp2_with fail
  with_reducible refine (CF7 _).mono ?_
  rintro e wz ⟨rfl, hbz⟩
  have HB2 := hid (HB.out.trans (hbz.mono HB.out.size))
  clear HB hbz k0 k1 k2 k3 k4 k5 k6 k7 k8 k9 k10 k11 k12 k13 k14 k15 k16 k17 k18
  have HB := HB2
  clear HB2
  obtain ⟨k0, k1, k2, k3, k4, k5, k6, k7, k8, k9, k10, k11, k12, k13, k14, k15, k16, k17, k18⟩ := (HN.out.on HB.out).cells
  cases F7 with
  | false =>
    go_wp2
    refine bodyPost_ret (v := .bool false) (by simp [results, Tryd.results84, go_sem, *]) rfl ⟨by rw [HE.out]; simp, HBW.out.trans (HB.out.mono HBW.out.size)⟩
  | true =>
  generalize wz = wqF7 at *
  go_wp2_with fail
  with_reducible refine (CF8 _).mono ?_
  rintro e wz ⟨rfl, hbz⟩
  have HB2 := hid (HB.out.trans (hbz.mono HB.out.size))
  clear HB hbz k0 k1 k2 k3 k4 k5 k6 k7 k8 k9 k10 k11 k12 k13 k14 k15 k16 k17 k18
  have HB := HB2
  clear HB2
  obtain ⟨k0, k1, k2, k3, k4, k5, k6, k7, k8, k9, k10, k11, k12, k13, k14, k15, k16, k17, k18⟩ := (HN.out.on HB.out).cells
  cases F8 with
  | false =>
    go_wp2
    refine bodyPost_ret (v := .bool false) (by simp [results, Tryd.results84, go_sem, *]) rfl ⟨by rw [HE.out]; simp, HBW.out.trans (HB.out.mono HBW.out.size)⟩
  | true =>
  generalize wz = wqF8 at *
  go_wp2_with fail
  with_reducible refine (CF9 _).mono ?_
  rintro e wz ⟨rfl, hbz⟩
  have HB2 := hid (HB.out.trans (hbz.mono HB.out.size))
  clear HB hbz k0 k1 k2 k3 k4 k5 k6 k7 k8 k9 k10 k11 k12 k13 k14 k15 k16 k17 k18
  have HB := HB2
  clear HB2
  obtain ⟨k0, k1, k2, k3, k4, k5, k6, k7, k8, k9, k10, k11, k12, k13, k14, k15, k16, k17, k18⟩ := (HN.out.on HB.out).cells
  cases F9 with
  | false =>
    go_wp2
    refine bodyPost_ret (v := .bool false) (by simp [results, Tryd.results84, go_sem, *]) rfl ⟨by rw [HE.out]; simp, HBW.out.trans (HB.out.mono HBW.out.size)⟩
  | true =>
  generalize wz = wqF9 at *
  go_wp2_with fail
  with_reducible refine (CF10 _).mono ?_
  rintro e wz ⟨rfl, hbz⟩
  have HB2 := hid (HB.out.trans (hbz.mono HB.out.size))
  clear HB hbz k0 k1 k2 k3 k4 k5 k6 k7 k8 k9 k10 k11 k12 k13 k14 k15 k16 k17 k18
  have HB := HB2
  clear HB2
  obtain ⟨k0, k1, k2, k3, k4, k5, k6, k7, k8, k9, k10, k11, k12, k13, k14, k15, k16, k17, k18⟩ := (HN.out.on HB.out).cells
  cases F10 with
  | false =>
    go_wp2
    refine bodyPost_ret (v := .bool false) (by simp [results, Tryd.results84, go_sem, *]) rfl ⟨by rw [HE.out]; simp, HBW.out.trans (HB.out.mono HBW.out.size)⟩
  | true =>
  generalize wz = wqF10 at *
  cases WL with
  | false =>
    have hk := of_decide_eq_false HWL.out
    have g1 : (16 : Int) < (n.wraps.length : Int) := by omega
    have g2 : 16 < n.wraps.length := by omega
    clear hk
    go_wp2
    refine bodyPost_ret (v := .bool false) (by simp [results, Tryd.results84, go_sem, *]) rfl ⟨by rw [HE.out]; simp, HBW.out.trans (HB.out.mono HBW.out.size)⟩
  | true =>
  have hk := of_decide_eq_true HWL.out
  have g1 : ¬ (16 : Int) < (n.wraps.length : Int) := by omega
  have g2 : ¬ 16 < n.wraps.length := by omega
  have HE2 := hid (show nodeB n = AW by rw [HE.out]; simp)
  have HBF := hid (HBW.out.trans (HB.out.mono HBW.out.size))
  have HB0 := HB
  clear hk HE HM1 HM2 HX5 HK HO HWL q1 q2
  go_wp2
  clear k0 k1 k2 k3 k4 k5 k6 k7 k8 k9 k10 k11 k12 k13 k14 k15 k16 k17 k18 p1 p2
  go_loopg [3] n.wraps.length (fun gh v3 wr => ∃ i : Nat, v3 = .int .i64 (i : Int) ∧ i ≤ n.wraps.length ∧ n.wraps.length - i ≤ gh ∧ Hid (allW (n.wraps.drop i) = AW) ∧ Hid (Below W.heap.size W wr))
  case atStart => exact ⟨0, rfl, by omega, by omega, HAW, HB0⟩
  case round =>
    obtain ⟨i, rfl, hi, hgh, H1, HBr⟩ := hrel
    have hsz := HBr.out.size
    have hN2 := HN.out.on HBr.out
    obtain ⟨k0, k1, k2, k3, k4, k5, k6, k7, k8, k9, k10, k11, k12, k13, k14, k15, k16, k17, k18⟩ := hN2.cells
    have lN := lt_of_block hN2
    clear hN2
    by_cases hlt : i < n.wraps.length
    · have hli : (i : Int) < (n.wraps.length : Int) := by omega
      have h1 := H1.out
      rw [allW_drop _ hlt] at h1
      obtain ⟨g, o, rfl, hg, o0, o1, o2, o3⟩ := (HA2.out.below (HBr.out.mono HBB.out)).wr hlt
      have y0 : g < wr.heap.size := by have := HBB.out; omega
      have C := rCheck_any n.wraps[i].k n.wraps[i].m n.wraps[i].n n.wraps[i].s wr (tabs_on HT.out (HBW.out.trans (HBr.out.mono HBW.out.size))) (HOK.out _ (List.getElem_mem hlt)).2.2 (HOK.out _ (List.getElem_mem hlt)).2.1
      obtain ⟨v, hv⟩ : ∃ v, okW n.wraps[i] = v := ⟨_, rfl⟩
      rw [chk_of hv] at C
      rw [hv] at h1
      obtain ⟨z, hz⟩ : ∃ z, n.wraps[i] = z := ⟨_, rfl⟩
      rw [hz] at o0 o1 o2 o3 C
      have H2 := hid h1
      clear h1 hz hv hg
      cases v with
      | true =>
        go_wp2_with fail
        with_reducible refine C.mono ?_
        rintro e w1 ⟨rfl, hb1⟩
        clear C
        go_wp2
        go_roundg (n.wraps.length - (i + 1))
        case measure => omega
        case rel => exact ⟨i + 1, by go_num, by omega, by omega, hid (by have := H2.out; rwa [Bool.true_and] at this), hid (HBr.out.trans (hb1.mono hsz))⟩
      | false =>
        have hf := H2.out
        rw [Bool.false_and] at hf
        subst hf
        go_wp2_with fail
        with_reducible refine C.mono ?_
        rintro e w1 ⟨rfl, hb1⟩
        clear C
        go_wp2
        refine bodyPost_ret (v := .bool false) (by simp [results, Tryd.results84, go_sem, *]) rfl ⟨by rw [HE2.out], HBW.out.trans ((HBr.out.trans (hb1.mono hsz)).mono HBW.out.size)⟩
    · have h1 := H1.out
      rw [List.drop_eq_nil_of_le (by omega)] at h1
      have hr : AW = true := h1.symm
      subst hr
      have q : ¬ (i : Int) < (n.wraps.length : Int) := by omega
      clear h1
      go_wp2
      refine bodyPost_ret (v := .bool true) (by simp [results, Tryd.results84, go_sem, *]) rfl ⟨by rw [HE2.out], HBW.out.trans (HBr.out.mono HBW.out.size)⟩
end Go.Proofs.YtnkojoajcdhngaaDoor
