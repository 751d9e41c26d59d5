/- Layer 8: may a node be? Both sides. Printed by gen_tr3.py. -/
import Derived.Test.YtnkojoajcdhngaaDoorTrAa
namespace Go.Proofs.YtnkojoajcdhngaaDoor
set_option linter.unusedVariables false
set_option linter.unusedSimpArgs false
set_option maxRecDepth 100000
open Go.RowKit Go.Shelf Go.Lib
set_option maxRecDepth 100000
set_option maxHeartbeats 16000000
theorem at_new (w : World) (xs : List Int) (n : Nat) (h : w.heap.size = n) : At (w.alloc (.cells (ints xs).toArray 3)).heap.size (w.alloc (.cells (ints xs).toArray 3)) (some ⟨n, 0, none⟩) (ints xs) := by
  subst h
  intro _
  refine ⟨w.heap.size, 0, rfl, by simp, fun j v hj => ?_⟩
  rw [blk_cell (World.alloc_heap_new _ _)]
  simpa using hj
theorem may_any {B : Nat} (n : Nd) (hn : n.ok) (Aw Ak : Option Addr) (cw ck : Nat) (w : World) (hT : Tabs w) (hA : At B w Aw (wrs n.wraps)) (hB : B ≤ w.heap.size) :
    Calls Tryd.prog 88 #[.agg (ndC n (.slice Aw n.wraps.length cw) (.slice Ak n.kids.length ck)).toArray] w fun e w' => e = .returned (.bool (mayB n)) ∧ Below w.heap.size w w' := by
  obtain ⟨K, hK⟩ : ∃ z, (decide (1 ≤ n.kind) && decide (n.kind ≤ 10)) = z := ⟨_, rfl⟩
  obtain ⟨T1, hT1⟩ : ∃ z, okT n.name 64 = z := ⟨_, rfl⟩
  obtain ⟨T2, hT2⟩ : ∃ z, okT n.cls 64 = z := ⟨_, rfl⟩
  obtain ⟨T3, hT3⟩ : ∃ z, okT n.txt 65536 = z := ⟨_, rfl⟩
  obtain ⟨O, hO⟩ : ∃ z, (decide (-1 ≤ n.order) && decide (n.order ≤ 1048576)) = z := ⟨_, rfl⟩
  obtain ⟨WL, hWL⟩ : ∃ z, decide (n.wraps.length ≤ 16) = z := ⟨_, rfl⟩
  obtain ⟨AW, hAW⟩ : ∃ z, allW n.wraps = z := ⟨_, rfl⟩

  obtain ⟨W1, hW1⟩ : ∃ z, [n.mw, n.mh, n.xw, n.xh, n.grow, n.gap].all (frB 16384) = z := ⟨_, rfl⟩
  obtain ⟨M1, hM1⟩ : ∃ z, mostB n.mw n.xw = z := ⟨_, rfl⟩
  obtain ⟨M2, hM2⟩ : ∃ z, mostB n.mh n.xh = z := ⟨_, rfl⟩
  obtain ⟨W2, hW2⟩ : ∃ z, [n.ox, n.oy].all (frB 1048576) = z := ⟨_, rfl⟩
  obtain ⟨W3, hW3⟩ : ∃ z, [n.columns, n.span].all (frB 64) = z := ⟨_, rfl⟩
  obtain ⟨RM, hRM⟩ : ∃ z, roomE n.kind = z := ⟨_, rfl⟩
  have HE := hid (show mayB n = ((K && (T1 && (T2 && T3)) && (W1 && (M1 && M2)) && (O && (W2 && (W3 && WL))) && AW) && decide (n.kids.length ≤ RM)) by
    unfold mayB nodeB
    rw [hK, hT1, hT2, hT3, hW1, hM1, hM2, hO, hW2, hW3, hWL, hAW, hRM])
  obtain ⟨W, hW⟩ : ∃ W, w.alloc (.cells (ndC n (.slice Aw n.wraps.length cw) (.slice Ak n.kids.length ck)).toArray 39) = W := ⟨_, rfl⟩
  have hBW : Below w.heap.size w W := by
    rw [← hW]
    exact (Below.refl _ _).alloc (Nat.le_refl _) _
  have hN : NBox w.heap.size n (.slice Aw n.wraps.length cw) (.slice Ak n.kids.length ck) W := by
    rw [← hW]
    exact World.alloc_heap_new _ _
  have hAW2 : At B W Aw (wrs n.wraps) := hA.below (hBW.mono hB)
  have hBs := hBW.size
  have CT1 := fun w1 (h : Below W.heap.size W w1) => ttext_any n.name 64 w1 (tabs_on hT (hBW.trans (h.mono hBW.size))) hn.2.1
  have CT2 := fun w1 (h : Below W.heap.size W w1) => ttext_any n.cls 64 w1 (tabs_on hT (hBW.trans (h.mono hBW.size))) hn.2.2.1
  have CT3 := fun w1 (h : Below W.heap.size W w1) => ttext_any n.txt 65536 w1 (tabs_on hT (hBW.trans (h.mono hBW.size))) hn.2.2.2.1
  have CC := fun w1 (h : Below W.heap.size W w1) => wcontains_any n.wraps hn.2.2.2.2.1 Aw cw B w1 (tabs_on hT (hBW.trans (h.mono hBW.size))) (hAW2.below (h.mono (Nat.le_trans hB hBs))) (by have := h.size; omega) hn.2.2.2.2.2.1
  have CM1 := fun w1 => most_any n.mw n.xw w1
  have CM2 := fun w1 => most_any n.mh n.xh w1
  have CR := fun w1 => room_any n.kind w1
  rw [hT1] at CT1
  rw [hT2] at CT2
  rw [hT3] at CT3
  rw [hM1] at CM1
  rw [hM2] at CM2
  rw [hRM] at CR
  rw [hAW] at CC
  have CW1 : ∀ w1 : World, Calls Tryd.prog 103 #[.int .i64 16384, .slice (some ⟨w1.heap.size, 0, none⟩) 6 6] (w1.alloc (.cells #[.int .i64 n.mw, .int .i64 n.mh, .int .i64 n.xw, .int .i64 n.xh, .int .i64 n.grow, .int .i64 n.gap] 3)) fun e w' => e = .returned (.bool ([n.mw, n.mh, n.xw, n.xh, n.grow, n.gap].all (frB 16384))) ∧ Below (w1.alloc (.cells #[.int .i64 n.mw, .int .i64 n.mh, .int .i64 n.xw, .int .i64 n.xh, .int .i64 n.grow, .int .i64 n.gap] 3)).heap.size (w1.alloc (.cells #[.int .i64 n.mw, .int .i64 n.mh, .int .i64 n.xw, .int .i64 n.xh, .int .i64 n.grow, .int .i64 n.gap] 3)) w' := fun w1 => within_any 16384 [n.mw, n.mh, n.xw, n.xh, n.grow, n.gap] (some ⟨w1.heap.size, 0, none⟩) 6 _ (w1.alloc (.cells #[.int .i64 n.mw, .int .i64 n.mh, .int .i64 n.xw, .int .i64 n.xh, .int .i64 n.grow, .int .i64 n.gap] 3)) (at_new w1 [n.mw, n.mh, n.xw, n.xh, n.grow, n.gap] _ rfl) (Nat.le_refl _) (by simp)
  have CW2 : ∀ w1 : World, Calls Tryd.prog 103 #[.int .i64 1048576, .slice (some ⟨w1.heap.size, 0, none⟩) 2 2] (w1.alloc (.cells #[.int .i64 n.ox, .int .i64 n.oy] 3)) fun e w' => e = .returned (.bool ([n.ox, n.oy].all (frB 1048576))) ∧ Below (w1.alloc (.cells #[.int .i64 n.ox, .int .i64 n.oy] 3)).heap.size (w1.alloc (.cells #[.int .i64 n.ox, .int .i64 n.oy] 3)) w' := fun w1 => within_any 1048576 [n.ox, n.oy] (some ⟨w1.heap.size, 0, none⟩) 2 _ (w1.alloc (.cells #[.int .i64 n.ox, .int .i64 n.oy] 3)) (at_new w1 [n.ox, n.oy] _ rfl) (Nat.le_refl _) (by simp)
  have CW3 : ∀ w1 : World, Calls Tryd.prog 103 #[.int .i64 64, .slice (some ⟨w1.heap.size, 0, none⟩) 2 2] (w1.alloc (.cells #[.int .i64 n.columns, .int .i64 n.span] 3)) fun e w' => e = .returned (.bool ([n.columns, n.span].all (frB 64))) ∧ Below (w1.alloc (.cells #[.int .i64 n.columns, .int .i64 n.span] 3)).heap.size (w1.alloc (.cells #[.int .i64 n.columns, .int .i64 n.span] 3)) w' := fun w1 => within_any 64 [n.columns, n.span] (some ⟨w1.heap.size, 0, none⟩) 2 _ (w1.alloc (.cells #[.int .i64 n.columns, .int .i64 n.span] 3)) (at_new w1 [n.columns, n.span] _ rfl) (Nat.le_refl _) (by simp)
  rw [hW1] at CW1
  rw [hW2] at CW2
  rw [hW3] at CW3
  simp only [ndC] at hW
  have HW := hid hW
  have HN := hid hN
  have HBW := hid hBW
  have HCT1 := hid CT1
  have HCT2 := hid CT2
  have HCT3 := hid CT3
  have HCC := hid CC
  have HCW1 := hid CW1
  have HCW2 := hid CW2
  have HCW3 := hid CW3
  have HCM1 := hid CM1
  have HCM2 := hid CM2
  have HCR := hid CR
  have HK := hid hK
  have HO := hid hO
  have HWL := hid hWL
  clear hK hT1 hT2 hT3 hO hWL hAW hW1 hM1 hM2 hW2 hW3 hRM hW hBW hN hA hAW2 hBs CT1 CT2 CT3 CC CM1 CM2 CR CW1 CW2 CW3 hT hB
  simp only [ndC]
  go_enter Tryd.func88, Tryd.ntmps88
  go_upto_region 1 with fail
  rw [HW.out]
  have HB := hid (Below.refl W.heap.size W)
  obtain ⟨k0, k1, k2, k3, k4, k5, k6, k7, k8, k9, k10, k11, k12, k13, k14, k15, k16, k17, k18⟩ := HN.out.cells
  cases K with
  | false =>
    have hk := HK.out
    by_cases q1 : n.kind < 1
    · go_wp2
      refine bodyPost_ret (v := .bool false) (by simp [results, Tryd.results88, go_sem, *]) rfl ⟨by rw [HE.out]; simp, HBW.out.trans (HB.out.mono HBW.out.size)⟩
    · have q2 : 10 < n.kind := by
        false_or_by_contra
        rw [decide_eq_true (by omega), decide_eq_true (by omega)] at hk
        cases hk
      clear hk
      go_wp2
      refine bodyPost_ret (v := .bool false) (by simp [results, Tryd.results88, go_sem, *]) rfl ⟨by rw [HE.out]; simp, HBW.out.trans (HB.out.mono HBW.out.size)⟩
  | true =>
  have hk := HK.out
  rw [Bool.and_eq_true, decide_eq_true_eq, decide_eq_true_eq] at hk
  obtain ⟨hk1, hk2⟩ := hk
  have q1 : ¬ n.kind < 1 := by omega
  have q2 : ¬ 10 < n.kind := by omega
  clear hk1 hk2
  go_wp2_with fail
  with_reducible refine (HCT1.out _ HB.out).mono ?_
  rintro e wz ⟨rfl, hbz⟩
  have HB2 := hid (HB.out.trans (hbz.mono HB.out.size))
  clear HB hbz k0 k1 k2 k3 k4 k5 k6 k7 k8 k9 k10 k11 k12 k13 k14 k15 k16 k17 k18
  have HB := HB2
  clear HB2
  obtain ⟨k0, k1, k2, k3, k4, k5, k6, k7, k8, k9, k10, k11, k12, k13, k14, k15, k16, k17, k18⟩ := (HN.out.on HB.out).cells
  cases T1 with
  | false =>
    go_wp2
    refine bodyPost_ret (v := .bool false) (by simp [results, Tryd.results88, go_sem, *]) rfl ⟨by rw [HE.out]; simp, HBW.out.trans (HB.out.mono HBW.out.size)⟩
  | true =>
  generalize wz = wqT1 at *
  go_wp2_with fail
  with_reducible refine (HCT2.out _ HB.out).mono ?_
  rintro e wz ⟨rfl, hbz⟩
  have HB2 := hid (HB.out.trans (hbz.mono HB.out.size))
  clear HB hbz k0 k1 k2 k3 k4 k5 k6 k7 k8 k9 k10 k11 k12 k13 k14 k15 k16 k17 k18
  have HB := HB2
  clear HB2
  obtain ⟨k0, k1, k2, k3, k4, k5, k6, k7, k8, k9, k10, k11, k12, k13, k14, k15, k16, k17, k18⟩ := (HN.out.on HB.out).cells
  cases T2 with
  | false =>
    go_wp2
    refine bodyPost_ret (v := .bool false) (by simp [results, Tryd.results88, go_sem, *]) rfl ⟨by rw [HE.out]; simp, HBW.out.trans (HB.out.mono HBW.out.size)⟩
  | true =>
  generalize wz = wqT2 at *
  go_wp2_with fail
  with_reducible refine (HCT3.out _ HB.out).mono ?_
  rintro e wz ⟨rfl, hbz⟩
  have HB2 := hid (HB.out.trans (hbz.mono HB.out.size))
  clear HB hbz k0 k1 k2 k3 k4 k5 k6 k7 k8 k9 k10 k11 k12 k13 k14 k15 k16 k17 k18
  have HB := HB2
  clear HB2
  obtain ⟨k0, k1, k2, k3, k4, k5, k6, k7, k8, k9, k10, k11, k12, k13, k14, k15, k16, k17, k18⟩ := (HN.out.on HB.out).cells
  cases T3 with
  | false =>
    go_wp2
    refine bodyPost_ret (v := .bool false) (by simp [results, Tryd.results88, go_sem, *]) rfl ⟨by rw [HE.out]; simp, HBW.out.trans (HB.out.mono HBW.out.size)⟩
  | true =>
  generalize wz = wqT3 at *
  have lq := (HN.out.on HB.out)
  have ll : w.heap.size < wqT3.heap.size := lt_of_block lq
  clear lq
  go_wp2_with fail
  with_reducible refine (HCW1.out wqT3).mono ?_
  rintro e wz ⟨rfl, hbz⟩
  have HB2 := hid (HB.out.trans ((((Below.refl _ _).alloc (Nat.le_refl _) _).trans (hbz.mono (by simp))).mono HB.out.size))
  clear HB hbz k0 k1 k2 k3 k4 k5 k6 k7 k8 k9 k10 k11 k12 k13 k14 k15 k16 k17 k18 ll
  have HB := HB2
  clear HB2
  obtain ⟨k0, k1, k2, k3, k4, k5, k6, k7, k8, k9, k10, k11, k12, k13, k14, k15, k16, k17, k18⟩ := (HN.out.on HB.out).cells
  cases W1 with
  | false =>
    go_wp2
    refine bodyPost_ret (v := .bool false) (by simp [results, Tryd.results88, go_sem, *]) rfl ⟨by rw [HE.out]; simp, HBW.out.trans (HB.out.mono HBW.out.size)⟩
  | true =>
  generalize wz = wqW1 at *
  go_wp2_with fail
  with_reducible refine (HCM1.out _).mono ?_
  rintro e wz ⟨rfl, hbz⟩
  have HB2 := hid (HB.out.trans (hbz.mono HB.out.size))
  clear HB hbz k0 k1 k2 k3 k4 k5 k6 k7 k8 k9 k10 k11 k12 k13 k14 k15 k16 k17 k18
  have HB := HB2
  clear HB2
  obtain ⟨k0, k1, k2, k3, k4, k5, k6, k7, k8, k9, k10, k11, k12, k13, k14, k15, k16, k17, k18⟩ := (HN.out.on HB.out).cells
  cases M1 with
  | false =>
    go_wp2
    refine bodyPost_ret (v := .bool false) (by simp [results, Tryd.results88, go_sem, *]) rfl ⟨by rw [HE.out]; simp, HBW.out.trans (HB.out.mono HBW.out.size)⟩
  | true =>
  generalize wz = wqM1 at *
  go_wp2_with fail
  with_reducible refine (HCM2.out _).mono ?_
  rintro e wz ⟨rfl, hbz⟩
  have HB2 := hid (HB.out.trans (hbz.mono HB.out.size))
  clear HB hbz k0 k1 k2 k3 k4 k5 k6 k7 k8 k9 k10 k11 k12 k13 k14 k15 k16 k17 k18
  have HB := HB2
  clear HB2
  obtain ⟨k0, k1, k2, k3, k4, k5, k6, k7, k8, k9, k10, k11, k12, k13, k14, k15, k16, k17, k18⟩ := (HN.out.on HB.out).cells
  cases M2 with
  | false =>
    go_wp2
    refine bodyPost_ret (v := .bool false) (by simp [results, Tryd.results88, go_sem, *]) rfl ⟨by rw [HE.out]; simp, HBW.out.trans (HB.out.mono HBW.out.size)⟩
  | true =>
  generalize wz = wqM2 at *
  cases O with
  | false =>
    have hk := HO.out
    by_cases p1 : n.order < -1
    · go_wp2
      refine bodyPost_ret (v := .bool false) (by simp [results, Tryd.results88, go_sem, *]) rfl ⟨by rw [HE.out]; simp, HBW.out.trans (HB.out.mono HBW.out.size)⟩
    · have p2 : 1048576 < n.order := by
        false_or_by_contra
        rw [decide_eq_true (by omega), decide_eq_true (by omega)] at hk
        cases hk
      clear hk
      go_wp2
      refine bodyPost_ret (v := .bool false) (by simp [results, Tryd.results88, go_sem, *]) rfl ⟨by rw [HE.out]; simp, HBW.out.trans (HB.out.mono HBW.out.size)⟩
  | true =>
  have hk := HO.out
  rw [Bool.and_eq_true, decide_eq_true_eq, decide_eq_true_eq] at hk
  obtain ⟨hk1, hk2⟩ := hk
  have p1 : ¬ n.order < -1 := by omega
  have p2 : ¬ 1048576 < n.order := by omega
  clear hk1 hk2
  have lq := (HN.out.on HB.out)
  have ll : w.heap.size < wqM2.heap.size := lt_of_block lq
  clear lq
  go_wp2_with fail
  with_reducible refine (HCW2.out wqM2).mono ?_
  rintro e wz ⟨rfl, hbz⟩
  have HB2 := hid (HB.out.trans ((((Below.refl _ _).alloc (Nat.le_refl _) _).trans (hbz.mono (by simp))).mono HB.out.size))
  clear HB hbz k0 k1 k2 k3 k4 k5 k6 k7 k8 k9 k10 k11 k12 k13 k14 k15 k16 k17 k18 ll
  have HB := HB2
  clear HB2
  obtain ⟨k0, k1, k2, k3, k4, k5, k6, k7, k8, k9, k10, k11, k12, k13, k14, k15, k16, k17, k18⟩ := (HN.out.on HB.out).cells
  cases W2 with
  | false =>
    go_wp2
    refine bodyPost_ret (v := .bool false) (by simp [results, Tryd.results88, go_sem, *]) rfl ⟨by rw [HE.out]; simp, HBW.out.trans (HB.out.mono HBW.out.size)⟩
  | true =>
  generalize wz = wqW2 at *
  have lq := (HN.out.on HB.out)
  have ll : w.heap.size < wqW2.heap.size := lt_of_block lq
  clear lq
  go_wp2_with fail
  with_reducible refine (HCW3.out wqW2).mono ?_
  rintro e wz ⟨rfl, hbz⟩
  have HB2 := hid (HB.out.trans ((((Below.refl _ _).alloc (Nat.le_refl _) _).trans (hbz.mono (by simp))).mono HB.out.size))
  clear HB hbz k0 k1 k2 k3 k4 k5 k6 k7 k8 k9 k10 k11 k12 k13 k14 k15 k16 k17 k18 ll
  have HB := HB2
  clear HB2
  obtain ⟨k0, k1, k2, k3, k4, k5, k6, k7, k8, k9, k10, k11, k12, k13, k14, k15, k16, k17, k18⟩ := (HN.out.on HB.out).cells
  cases W3 with
  | false =>
    go_wp2
    refine bodyPost_ret (v := .bool false) (by simp [results, Tryd.results88, go_sem, *]) rfl ⟨by rw [HE.out]; simp, HBW.out.trans (HB.out.mono HBW.out.size)⟩
  | true =>
  generalize wz = wqW3 at *
  cases WL with
  | false =>
    have hk := of_decide_eq_false HWL.out
    have g1 : (16 : Int) < (n.wraps.length : Int) := by omega
    have g2 : 16 < n.wraps.length := by omega
    clear hk
    go_wp2
    refine bodyPost_ret (v := .bool false) (by simp [results, Tryd.results88, go_sem, *]) rfl ⟨by rw [HE.out]; simp, HBW.out.trans (HB.out.mono HBW.out.size)⟩
  | true =>
  have hk := of_decide_eq_true HWL.out
  have g1 : ¬ (16 : Int) < (n.wraps.length : Int) := by omega
  have g2 : ¬ 16 < n.wraps.length := by omega
  clear hk
  have ll : w.heap.size < wqW3.heap.size := lt_of_block (HN.out.on HB.out)
  have CC := fun X : Ext wqW3 => HCC.out (ext X) (HB.out.trans (X.2.mono HB.out.size))
  have CR := fun X : Ext wqW3 => HCR.out (ext X)
  cases AW with
  | false =>
    go_wp2
    refine region_ext mixed (by kernel_rfl) ?_
    (repeat (go_big_quiet_step (first | (go_at_call 105; with_reducible exact in_ext (CC _)))))
    refine wpQuiet_nil ?_
    intro wy hby
    go_wp2
    refine bodyPost_ret (v := .bool false) (by simp [results, Tryd.results88, go_sem, *]) rfl ⟨by rw [HE.out]; simp, HBW.out.trans ((HB.out.trans (hby.mono HB.out.size)).mono HBW.out.size)⟩
  | true =>
    have hfin : mayB n = decide ((n.kids.length : Int) ≤ (RM : Int)) := by
      rw [HE.out]
      simp
    have HFI := hid hfin
    clear hfin
    go_wp2
    refine region_ext mixed (by kernel_rfl) ?_
    (repeat (go_big_quiet_step (first
      | (go_at_call 105; with_reducible exact in_ext (CC _))
      | (go_at_call 108; with_reducible exact in_ext (CR _)))))
    refine wpQuiet_nil ?_
    intro wy hby
    go_wp2
    refine bodyPost_ret (v := .bool (decide ((n.kids.length : Int) ≤ (RM : Int)))) (by simp [results, Tryd.results88, go_sem, *]) rfl ⟨by rw [HFI.out], HBW.out.trans ((HB.out.trans (hby.mono HB.out.size)).mono HBW.out.size)⟩
end Go.Proofs.YtnkojoajcdhngaaDoor
