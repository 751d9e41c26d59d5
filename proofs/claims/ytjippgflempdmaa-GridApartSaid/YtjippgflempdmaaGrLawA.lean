/- Layer 11: the law GridApart: the walk. -/
import Derived.Test.YtjippgflempdmaaGrApart
import Derived.Test.YtjippgflempdmaaGrLawR
import Derived.Test.YtjippgflempdmaaBaseLex
namespace Go.Proofs.Ytjippgflempdmaa
set_option linter.unusedVariables false
set_option linter.unusedSimpArgs false
set_option maxRecDepth 100000
open Go.RowKit
attribute [local go_sem] max_fold min_fold

theorem getD_at9 {α : Type} (l : List α) (i : Nat) (d : α) (h : i < l.length) : l[i] = l.getD i d := by simp [List.getD, h]
theorem cellE_ok {S : List Int} {col : Int} (h : cellE S col = 0) : S.length ≤ 1024 ∧ 0 ≤ col ∧ col ≤ 64 := by
  have h1 := numE_ok (ask_ok h (numE 64 S) (by simp))
  have h2 := num1_ok (ask_ok h (num1 64 col) (by simp))
  exact ⟨h1.1, h2⟩

set_option maxRecDepth 100000 in
set_option maxHeartbeats 8000000 in
theorem walkGridApart (w : World) (A : Option Addr) (c : Nat) (S : List Int) (hA : At w.heap.size w A (ints S)) (hnil : A = none → S.length = 0 ∧ c = 0) (hlc : S.length ≤ c) (hcm : c ≤ maxLen) (hw1 : ∀ n ∈ S, (Lit.int .i64 n).wf = true) (A2 : Option Addr) (c2 : Nat) (L : List T2) (hA2 : At w.heap.size w A2 (t2s L)) (hnil2 : A2 = none → L.length = 0 ∧ c2 = 0) (hlc2 : L.length ≤ c2) (hcm2 : c2 ≤ maxLen) (col : Int) (hwc : (Lit.int .i64 col).wf = true) (gap : Int) (hwg : (Lit.int .i64 gap).wf = true) (rx ry rw_ rh : Int) :
    Calls Try.prog 7 #[.slice A S.length c, .slice A2 L.length c2, .int .i64 col, .int .i64 gap, .agg #[.int .i64 rx, .int .i64 ry, .int .i64 rw_, .int .i64 rh]] w fun e w' => e = .returned (.bool true) ∧ Below w.heap.size w w' := by
  have hm1 : (S.length : Int) ≤ 9223372036854775807 := by unfold maxLen at hcm; omega
  have hm2 : (L.length : Int) ≤ 9223372036854775807 := by unfold maxLen at hcm2; omega
  clear hw1 hwc hwg hnil hnil2 hlc hlc2 hcm hcm2
  by_cases hb1 : 40 < S.length
  · have hb1' : (40 : Int) < (S.length : Int) := by omega
    clear hA hA2
    go_enter Try.func7, Try.ntmps7
    go_wp2_with fail
    refine (alive_any _).mono ?_
    rintro e w1 ⟨rfl, h1⟩
    go_wp2
    go_ret
    exact ⟨rfl, ((Below.refl _ _).alloc (Nat.le_refl _) _).trans (h1.mono (by simp))⟩
  · by_cases hb2 : 40 < L.length
    · have hb1' : ¬ (40 : Int) < (S.length : Int) := by omega
      have hb2' : (40 : Int) < (L.length : Int) := by omega
      clear hA hA2
      go_enter Try.func7, Try.ntmps7
      go_wp2_with fail
      refine (alive_any _).mono ?_
      rintro e w1 ⟨rfl, h1⟩
      go_wp2
      go_ret
      exact ⟨rfl, ((Below.refl _ _).alloc (Nat.le_refl _) _).trans (h1.mono (by simp))⟩
    · have HC := Go.Lib.hid fun (w : World) h1 => Cells_any w.heap.size A c S col w h1 (Nat.le_refl _) (by omega)
      have HN := Go.Lib.hid fun (w : World) h1 h2 => Need_any w.heap.size A A2 c c2 S L col gap w h1 h2 (Nat.le_refl _) (by omega) (by omega)
      have HRE := Go.Lib.hid fun (w : World) h1 h2 => Rects_any w.heap.size A A2 c c2 S L col gap rx ry rw_ rh w h1 h2 (Nat.le_refl _) (by omega) (by omega)
      have hb1' : ¬ (40 : Int) < (S.length : Int) := by omega
      have hb2' : ¬ (40 : Int) < (L.length : Int) := by omega
      by_cases hE : cellE S col = 0
      · obtain ⟨hl, hc0, hc1⟩ := cellE_ok hE
        have hpr : cellsL S col = ptsL (max col 1) S S.length := by unfold cellsL; rw [if_pos hE]
        obtain ⟨m, hm⟩ : ∃ m : Nat, max col 1 = (m : Int) := ⟨(max col 1).toNat, by omega⟩
        have hM1 : 1 ≤ m := by omega
        have hM2 : m ≤ 64 := by omega
        rw [hpr, hE, hm] at HC
        have HWC : Hid (∀ i, wideC (S.getD i 0) col = wideP m S i) := Go.Lib.hid fun i => by rw [wideC_eq, hm]
        have HCOL := Go.Lib.hid hm
        obtain ⟨N, hN⟩ : ∃ N, S.length = N := ⟨_, rfl⟩
        obtain ⟨M, hM⟩ : ∃ M, L.length = M := ⟨_, rfl⟩
        rw [hN] at HC HN HRE hl hb1 hb1' hm1 ⊢
        rw [hM] at HN HRE hb2 hb2' hm2 ⊢
        have HNN := Go.Lib.hid hN
        have HMM := Go.Lib.hid hM
        have HPL := Go.Lib.hid (ptsL_len (m : Int) S N)
        clear hN hM hE hpr
        go_enter Try.func7, Try.ntmps7
        have b0 := Below.refl w.heap.size w
        have hq := alloc_at w (.cells #[.int .i64 rx, .int .i64 ry, .int .i64 rw_, .int .i64 rh] 42)
        have h0 : Below w.heap.size w (w.alloc (.cells #[.int .i64 rx, .int .i64 ry, .int .i64 rw_, .int .i64 rh] 42)) := (Below.refl _ _).alloc (Nat.le_refl _) _
        have ha0 := hA.on9 h0
        have ha20 := hA2.on9 h0
        clear hA hA2 b0
        go_wp2_with fail
        refine (alive_any _).mono ?_
        rintro e w1 ⟨rfl, h1⟩
        have hq1 := (h1.block _ (blk_lt2 hq)).trans hq
        have h01 := h0.trans (h1.mono h0.size)
        have ha1 := ha0.on9 h1
        have ha21 := ha20.on9 h1
        clear hq h0 ha0 ha20 h1
        go_wp2_with fail
        refine (HC.out _ ha1).mono ?_
        rintro e w2 ⟨Ap, cp, rfl, hop, h2⟩
        rw [HPL.out] at hop ⊢
        have HQ2 := Go.Lib.hid ((h2.block _ (blk_lt2 hq1)).trans hq1)
        have HB2 := Go.Lib.hid (h01.trans (h2.mono h01.size))
        have HA := Go.Lib.hid (ha1.on9 h2)
        have HA2 := Go.Lib.hid (ha21.on9 h2)
        have HAP := Go.Lib.hid (At.of_own hop)
        obtain ⟨qr, hqr⟩ : ∃ q, w.heap.size = q := ⟨_, rfl⟩
        have HQR := Go.Lib.hid hqr
        have HQ3 : Hid (w2.heap[qr]? = some (.cells #[.int .i64 rx, .int .i64 ry, .int .i64 rw_, .int .i64 rh] 42 (0, 0))) := Go.Lib.hid (by rw [← hqr]; exact HQ2.out)
        rw [hqr]
        clear hop h2 hq1 h01 ha1 ha21 HC HQ2 hqr
        go_wp2
        have H0 : Hid (Below w2.heap.size w2 w2) := Go.Lib.hid (Below.refl _ _)
        go_loopw [14, 15, 16] (fun i_ _ _ wr => ∃ j : Nat, (j < N ∨ j = 0) ∧ i_ = .int .i64 ((j : Int) + 1) ∧ Hid (Below w2.heap.size w2 wr)) (fun i_ _ _ _ => N + 1 - (intOf i_).toNat)
        case atStart => exact ⟨0, by omega, by simp, H0⟩
        case round =>
          clear H0
          obtain ⟨j, hj, rfl, H⟩ := hrel
          obtain ⟨w3, hww⟩ : ∃ q, q = wr := ⟨_, rfl⟩
          subst hww
          by_cases hlt : j + 1 < N
          · have hli : (j : Int) + 1 < (N : Int) := by omega
            have hlj : (j : Int) < (N : Int) := by omega
            have hA3 := HA.out.on9 H.out
            have hAP3 := HAP.out.on9 H.out
            obtain ⟨g1, o1, rfl, hg1, x1⟩ := hA3.num (k := j) (by rw [HNN.out]; omega)
            have x2 := (hA3.num2 (k := j + 1) (by rw [HNN.out]; omega)).2
            obtain ⟨g3, o3, rfl, hg3, y0, y1⟩ := hAP3.t2 (k := j) (by rw [HPL.out]; omega)
            obtain ⟨g4, o4, hA4, hg4, z0, z1⟩ := hAP3.t2 (k := j + 1) (by rw [HPL.out]; omega)
            injection hA4 with hA4
            injection hA4 with h4a h4b
            subst h4a h4b
            rw [show (ptsL (m : Int) S N)[j]'(by rw [HPL.out]; omega) = ⟨colP m S j, (rowP m S j : Int)⟩ by simp [ptsL]] at y0 y1
            rw [show (ptsL (m : Int) S N)[j + 1]'(by rw [HPL.out]; omega) = ⟨colP m S (j + 1), (rowP m S (j + 1) : Int)⟩ by simp [ptsL]] at z0 z1
            have hcb := col_bd (n := (m : Int)) (by omega) S j
            have hwb := wide_bd (n := (m : Int)) (by omega) S j
            have hwb2 := wide_bd (n := (m : Int)) (by omega) S (j + 1)
            have hrl := row_le (n := (m : Int)) (by omega) S j
            have hnx := cell_next (n := (m : Int)) (by omega) S j
            have HW0 := Go.Lib.hid (HWC.out j)
            have HW1 : Hid (∀ w, Calls Try.prog 27 #[.int .i64 (S.getD (j + 1) 0), .int .i64 col] w fun e w' => e = .returned (.int .i64 (wideP m S (j + 1))) ∧ w = w') := Go.Lib.hid fun w => HWC.out (j + 1) ▸ wide_any _ col w
            simp only at y0 y1 z0 z1
            generalize colP m S (j + 1) = X1 at *
            generalize rowP m S (j + 1) = Y1 at *
            generalize wideP m S (j + 1) = wd1 at *
            generalize colP m S j = X0 at *
            generalize rowP m S j = Y0 at *
            generalize wideP m S j = wd0 at *
            generalize S.getD j 0 = s0 at *
            generalize S.getD (j + 1) 0 = s1 at *
            have lg1 := World.block_lt_of_cell? _ _ x1
            have lg3 := World.block_lt_of_cell? _ _ y0
            clear hA3 hAP3
            have x2' : w3.cell? ⟨g1, o1 + (j + 1), none⟩ = some (.int .i64 s1) := x2
            go_wp2_with fail
            refine (wide_any _ _ _).mono ?_
            rintro e w' ⟨rfl, rfl⟩
            rw [HW0.out]
            rcases hnx with ⟨e1, e2⟩ | ⟨e1, e2, e3⟩
            · subst e1 e2
              go_wp2
              refine region_ext mixed (lexC_spec (by kernel_rfl)) ?_
              (repeat (go_big_quiet_step (fail)))
              refine wpQuiet_nil ?_
              intro w4 hbw4
              obtain ⟨hc4, _⟩ := bcell hbw4
              have x1b := (hc4 _ _ lg1).trans x1
              have x2b := (hc4 _ _ lg1).trans x2'
              have y0b := (hc4 _ _ lg3).trans y0
              have y1b := (hc4 _ _ lg3).trans y1
              have z0b := (hc4 _ _ lg3).trans z0
              have z1b := (hc4 _ _ lg3).trans z1
              have lb1 := World.block_lt_of_cell? _ _ x1b
              have lb3 := World.block_lt_of_cell? _ _ y0b
              clear x1 x2 x2' y0 y1 z0 z1 lg1 lg3 hc4
              go_wp2
              refine region_ext mixed (lexC_spec (by kernel_rfl)) ?_
              (repeat (go_big_quiet_step (fail)))
              refine wpQuiet_nil ?_
              intro w5 hbw5
              go_wp2
              go_roundw
              case rel => exact ⟨j + 1, .inl hlt, by go_num, Go.Lib.hid ((H.out.trans (hbw4.mono H.out.size)).trans (hbw5.mono (by have := H.out.size; have := hbw4.size; omega)))⟩
              case measure => simp [intOf]; omega
            · subst e1 e2
              have d1 : decide ((Y0 : Int) + 1 = (Y0 : Int)) = false := by simp; omega
              have d1b : ((Y0 : Int) + 1 == (Y0 : Int)) = false := by simp; omega
              rw [show ((Y0 + 1 : Nat) : Int) = (Y0 : Int) + 1 by omega] at z1
              have d2 : decide (X0 + wd0 + wd1 ≤ (m : Int)) = false := by simp; omega
              go_wp2
              refine region_ext mixed (lexC_spec (by kernel_rfl)) ?_
              (repeat (go_big_quiet_step (fail)))
              refine wpQuiet_nil ?_
              intro w4 hbw4
              obtain ⟨hc4, _⟩ := bcell hbw4
              have x1b := (hc4 _ _ lg1).trans x1
              have x2b := (hc4 _ _ lg1).trans x2'
              have y0b := (hc4 _ _ lg3).trans y0
              have y1b := (hc4 _ _ lg3).trans y1
              have z0b := (hc4 _ _ lg3).trans z0
              have z1b := (hc4 _ _ lg3).trans z1
              have lb1 := World.block_lt_of_cell? _ _ x1b
              have lb3 := World.block_lt_of_cell? _ _ y0b
              clear x1 x2 x2' y0 y1 z0 z1 lg1 lg3 hc4
              go_wp2
              refine region_ext mixed (lexC_spec (by kernel_rfl)) ?_
              (repeat (go_big_quiet_step (first | (go_at_call 27; with_reducible exact in_ext_same (HW1.out _)))))
              refine wpQuiet_nil ?_
              intro w5 hbw5
              go_wp2
              go_roundw
              case rel => exact ⟨j + 1, .inl hlt, by go_num, Go.Lib.hid ((H.out.trans (hbw4.mono H.out.size)).trans (hbw5.mono (by have := H.out.size; have := hbw4.size; omega)))⟩
              case measure => simp [intOf]; omega
          · have hlt' : ¬ ((j : Int) + 1 < (N : Int)) := by omega
            obtain ⟨⟨np, nq⟩, hnd⟩ : ∃ r : T2, ndR S L col gap = r := ⟨_, rfl⟩
            obtain ⟨eN, heN⟩ : ∃ e, ndE S L col gap = e := ⟨_, rfl⟩
            obtain ⟨R, hR⟩ : ∃ e, rcsR S L col gap ⟨rx, ry, rw_, rh⟩ = e := ⟨_, rfl⟩
            obtain ⟨eR, heR⟩ : ∃ e, rcsE S L col gap ⟨rx, ry, rw_, rh⟩ = e := ⟨_, rfl⟩
            obtain ⟨nR, hnR⟩ : ∃ n, R.length = n := ⟨_, rfl⟩
            rw [hnd, heN] at HN
            rw [hR, heR] at HRE
            have HAPT : Hid (eN = 0 → np ≤ rw_ → nq ≤ rh → Geo.may ⟨rx, ry, rw_, rh⟩ = true → S.length = L.length ∧ eR = 0 ∧ R.length = S.length ∧ (∀ i, i < S.length → RctF (L.getD i ⟨0, 0⟩) ⟨rx, ry, rw_, rh⟩ (R.getD i Geo.zero)) ∧ (∀ i k, k < i → i < S.length → Geo.over (R.getD i Geo.zero) (R.getD k Geo.zero) = false) ∧ (∀ i, i < S.length → (0 ≤ (L.getD i ⟨0, 0⟩).p ∧ (L.getD i ⟨0, 0⟩).p ≤ 16384) ∧ (0 ≤ (L.getD i ⟨0, 0⟩).q ∧ (L.getD i ⟨0, 0⟩).q ≤ 16384))) := Go.Lib.hid fun h1 h2 h3 h4 => by
              have := need_apart (r := ⟨rx, ry, rw_, rh⟩) (heN.trans h1) (by rw [hnd]; exact h2) (by rw [hnd]; exact h3) h4
              rwa [hR, heR] at this
            have HNR := Go.Lib.hid hnR
            have ha3 := HA.out.on9 H.out
            have ha23 := HA2.out.on9 H.out
            have hq3 := (H.out.block _ (blk_lt2 HQ3.out)).trans HQ3.out
            have hb3 := HB2.out.trans (H.out.mono HB2.out.size)
            clear hnd heN hR heR hnR HA HA2 HAP HQ3 HB2 H HWC hj
            go_wp2_with fail
            refine (HN.out _ ha3 ha23).mono ?_
            rintro e w4 ⟨rfl, h4⟩
            have ha4 := ha3.on9 h4
            have ha24 := ha23.on9 h4
            have hq4 := (h4.block _ (blk_lt2 hq3)).trans hq3
            have hb4 := hb3.trans (h4.mono hb3.size)
            have h5 : Below w4.heap.size w4 (w4.alloc (.cells #[.int .i64 np, .int .i64 nq] 31)) := (Below.refl _ _).alloc (Nat.le_refl _) _
            have hn5 := alloc_at w4 (.cells #[.int .i64 np, .int .i64 nq] 31)
            have ha5 := ha4.on9 h5
            have ha25 := ha24.on9 h5
            have hq5 := (h5.block _ (blk_lt2 hq4)).trans hq4
            have hb5 := hb4.trans (h5.mono hb4.size)
            obtain ⟨q0, q1, q2, q3, lq⟩ := blk4 hq4
            clear ha3 ha23 hq3 hb3 h4 ha4 ha24 hq4 hb4 h5
            go_wp2_with fail
            refine (HRE.out _ ha5 ha25).mono ?_
            rintro e w6 ⟨Al, cl, rfl, hol, h6⟩
            rw [HNR.out] at hol ⊢
            have HA26 := Go.Lib.hid (ha25.on9 h6)
            have hq6 := (h6.block _ (blk_lt2 hq5)).trans hq5
            have hn6 := (h6.block _ (blk_lt2 hn5)).trans hn5
            have HB6 := Go.Lib.hid (hb5.trans (h6.mono hb5.size))
            have HL6 := Go.Lib.hid hol
            have HQ6 := Go.Lib.hid hq6
            clear q0 q1 q2 q3 lq ha5 ha25 hq5 hn5 hb5 h6 HN HRE hol
            obtain ⟨q0, q1, q2, q3, lq⟩ := blk4 hq6
            obtain ⟨k0, k1, _, _, lk⟩ := blk2 hn6
            clear hq6 hn6
            obtain ⟨bn, hbn⟩ : ∃ q, w4.heap.size = q := ⟨_, rfl⟩
            rw [hbn] at k0 k1 lk ⊢
            clear hbn
            by_cases hN0 : eN = 0
            · subst hN0
              by_cases hWW : rw_ < np
              · have d1 : decide (rw_ < np) = true := by simpa using hWW
                go_wp2
                go_ret
                exact ⟨rfl, HB6.out⟩
              · have d1 : decide (rw_ < np) = false := by simpa using hWW
                by_cases hHH : rh < nq
                · have d2 : decide (rh < nq) = true := by simpa using hHH
                  go_wp2
                  go_ret
                  exact ⟨rfl, HB6.out⟩
                · have d2 : decide (rh < nq) = false := by simpa using hHH
                  go_wp2_with fail
                  refine (Geo.check_any _ _ _ _ _).mono ?_
                  rintro e w7 ⟨rfl, h7⟩
                  have HB7 := Go.Lib.hid (HB6.out.trans (h7.mono HB6.out.size))
                  cases hm9 : Geo.may ⟨rx, ry, rw_, rh⟩
                  · rw [show Geo.checkE ⟨rx, ry, rw_, rh⟩ = 5 by unfold Geo.checkE; rw [hm9]; rfl]
                    clear hm9 h7
                    go_wp2
                    go_ret
                    exact ⟨rfl, HB7.out⟩
                  · rw [show Geo.checkE ⟨rx, ry, rw_, rh⟩ = 0 by unfold Geo.checkE; rw [hm9]; rfl]
                    obtain ⟨hNM, heR, hlR, hF, hG, hSZ⟩ := HAPT.out (by first | rfl | trivial) (by omega) (by omega) hm9
                    have hmb := (Geo.may_iff _ _ _ _).1 hm9
                    have hnR : N = nR := by rw [← HNR.out, hlR, HNN.out]
                    have hMN : N = M := by rw [← HMM.out, ← hNM, HNN.out]
                    subst heR hnR hMN
                    have HF := Go.Lib.hid (⟨hF, hG, hSZ⟩ : _ ∧ _ ∧ _)
                    have HL7 := Go.Lib.hid (own_below' HL6.out h7)
                    have HQ7 := Go.Lib.hid ((h7.block _ (blk_lt2 HQ6.out)).trans HQ6.out)
                    have HA27 := Go.Lib.hid (HA26.out.on9 h7)
                    have HRL := Go.Lib.hid (hlR.trans HNN.out)
                    have HLL := Go.Lib.hid (hNM.symm.trans HNN.out)
                    clear hF hG hSZ hNM hlR hm9 HAPT HL6 HQ6 HA26 h7 q0 q1 q2 q3 lq k0 k1 lk HB6 d1 d2
                    go_wp2
                    have H0 : Hid (Below w7.heap.size w7 w7) := Go.Lib.hid (Below.refl _ _)
                    go_loopw [20, 21] (fun i_ _ wr => ∃ i : Nat, i ≤ N ∧ i_ = .int .i64 i ∧ Hid (Below w7.heap.size w7 wr)) (fun i_ _ _ => N - (intOf i_).toNat)
                    case atStart => exact ⟨0, by omega, rfl, H0⟩
                    case round =>
                      clear H0
                      obtain ⟨i, hi, rfl, H⟩ := hrel
                      obtain ⟨w8, hww⟩ : ∃ q, q = wr := ⟨_, rfl⟩
                      subst hww
                      by_cases hlt : i < N
                      · have hli : (i : Int) < (N : Int) := by omega
                        have hf := HF.out.1 i (by rw [HNN.out]; exact hlt)
                        have hs := HF.out.2.2 i (by rw [HNN.out]; exact hlt)
                        have ho8 := own_below' HL7.out H.out
                        obtain ⟨g, rfl, _⟩ := own_pos ho8 (by omega)
                        obtain ⟨e0, e1, e2, e3⟩ := Geo.rcells_at R i (by rw [HRL.out]; exact hlt)
                        have c0 := ho8.cellAt (i * 4) (by omega)
                        have c1 := ho8.cellAt (i * 4 + 1) (by omega)
                        have c2 := ho8.cellAt (i * 4 + 2) (by omega)
                        have c3 := ho8.cellAt (i * 4 + 3) (by omega)
                        rw [e0] at c0
                        rw [e1] at c1
                        rw [e2] at c2
                        rw [e3] at c3
                        rw [getD_at9 R i Geo.zero (by rw [HRL.out]; exact hlt)] at c0 c1 c2 c3
                        obtain ⟨g2, o2, rfl, hg2, x0, x1⟩ := (HA27.out.on9 H.out).t2 (k := i) (by rw [HLL.out]; exact hlt)
                        rw [getD_at9 L i ⟨0, 0⟩ (by rw [HLL.out]; exact hlt)] at x0 x1
                        obtain ⟨q0, q1, q2, q3, lq⟩ := blk4 ((H.out.block _ (blk_lt2 HQ7.out)).trans HQ7.out)
                        have lg := World.block_lt_of_cell? _ _ c0
                        have lg2 := World.block_lt_of_cell? _ _ x0
                        have f1 := hf.w
                        have f2 := hf.h
                        have f3 := hf.x
                        have f4 := hf.y
                        have f5 := hf.right
                        have f6 := hf.bot
                        obtain ⟨⟨qx, qy, qw, qh⟩, hqi⟩ : ∃ q, R.getD i Geo.zero = q := ⟨_, rfl⟩
                        obtain ⟨⟨sp, sq⟩, hsi⟩ : ∃ q, L.getD i ⟨0, 0⟩ = q := ⟨_, rfl⟩
                        rw [hqi] at c0 c1 c2 c3 f1 f2 f3 f4 f5 f6
                        rw [hsi] at x0 x1 f1 f2 hs
                        simp only at c0 c1 c2 c3 x0 x1 f1 f2 f3 f4 f5 f6 hs
                        have HQI := Go.Lib.hid hqi
                        have d1 : decide (qw < sp) = false := by simp; omega
                        have d2 : decide (qh < sq) = false := by simp; omega
                        have d3 : decide (qx < rx) = false := by simp; omega
                        have d4 : decide (qy < ry) = false := by simp; omega
                        have d5 : decide (rx + rw_ < qx + qw) = false := by simp; omega
                        have d6 : decide (ry + rh < qy + qh) = false := by simp; omega
                        clear hqi hsi hf ho8 e0 e1 e2 e3
                        go_wp2
                        refine region_ext mixed (lexC_spec (by kernel_rfl)) ?_
                        (repeat (go_big_quiet_step (fail)))
                        refine wpQuiet_nil ?_
                        intro w9 hb9
                        have HB9 := Go.Lib.hid (H.out.trans (hb9.mono H.out.size))
                        clear c0 c1 c2 c3 x0 x1 q0 q1 q2 q3 lq lg lg2 d1 d2 d3 d4 d5 d6 f1 f2 f3 f4 f5 f6 hs H hb9
                        go_wp2
                        have H1 : Hid (Below w9.heap.size w9 w9) := Go.Lib.hid (Below.refl _ _)
                        go_loopw [21] (fun k_ wr => ∃ k : Nat, k ≤ i ∧ k_ = .int .i64 k ∧ Hid (Below w9.heap.size w9 wr)) (fun k_ _ => i - (intOf k_).toNat)
                        case atStart => exact ⟨0, by omega, rfl, H1⟩
                        case round =>
                          clear H1
                          obtain ⟨k, hk, rfl, H⟩ := hrel
                          obtain ⟨w10, hww⟩ : ∃ q, q = wr := ⟨_, rfl⟩
                          subst hww
                          have HB10 := Go.Lib.hid (HB9.out.trans (H.out.mono HB9.out.size))
                          by_cases hki : k < i
                          · have hkl : (k : Int) < (i : Int) := by omega
                            have hkN : (k : Int) < (N : Int) := by omega
                            have hov := HF.out.2.1 i k hki (by rw [HNN.out]; exact hlt)
                            have ho := own_below' HL7.out HB10.out
                            obtain ⟨e0, e1, e2, e3⟩ := Geo.rcells_at R i (by rw [HRL.out]; exact hlt)
                            obtain ⟨r0, r1, r2, r3⟩ := Geo.rcells_at R k (by rw [HRL.out]; omega)
                            have c0 := ho.cellAt (i * 4) (by omega)
                            have c1 := ho.cellAt (i * 4 + 1) (by omega)
                            have c2 := ho.cellAt (i * 4 + 2) (by omega)
                            have c3 := ho.cellAt (i * 4 + 3) (by omega)
                            have b0 := ho.cellAt (k * 4) (by omega)
                            have b1 := ho.cellAt (k * 4 + 1) (by omega)
                            have b2 := ho.cellAt (k * 4 + 2) (by omega)
                            have b3 := ho.cellAt (k * 4 + 3) (by omega)
                            rw [e0] at c0
                            rw [e1] at c1
                            rw [e2] at c2
                            rw [e3] at c3
                            rw [r0] at b0
                            rw [r1] at b1
                            rw [r2] at b2
                            rw [r3] at b3
                            rw [getD_at9 R i Geo.zero (by rw [HRL.out]; exact hlt)] at c0 c1 c2 c3
                            rw [getD_at9 R k Geo.zero (by rw [HRL.out]; omega)] at b0 b1 b2 b3
                            obtain ⟨⟨px, py, pw, ph⟩, hpk⟩ : ∃ q, R.getD k Geo.zero = q := ⟨_, rfl⟩
                            rw [HQI.out] at c0 c1 c2 c3 hov
                            rw [hpk] at b0 b1 b2 b3 hov
                            simp only at c0 c1 c2 c3 b0 b1 b2 b3
                            have HOV : Hid (∀ w, Calls Try.prog 30 #[.agg #[.int .i64 qx, .int .i64 qy, .int .i64 qw, .int .i64 qh], .agg #[.int .i64 px, .int .i64 py, .int .i64 pw, .int .i64 ph]] w fun e w' => e = .returned (.bool false) ∧ Below w.heap.size w w') := Go.Lib.hid fun w => hov ▸ Geo.over_any qx qy qw qh px py pw ph w
                            have lg := World.block_lt_of_cell? _ _ c0
                            clear hov ho e0 e1 e2 e3 r0 r1 r2 r3 hpk
                            go_wp2
                            refine region_ext mixed (lexC_spec (by kernel_rfl)) ?_
                            (repeat (go_big_quiet_step (first | (go_at_call 30; with_reducible exact in_ext (HOV.out _)))))
                            refine wpQuiet_nil ?_
                            intro w11 hb11
                            go_wp2
                            go_roundw
                            case rel => exact ⟨k + 1, by omega, by go_num, Go.Lib.hid (H.out.trans (hb11.mono H.out.size))⟩
                            case measure => simp [intOf]; omega
                          · have hki' : ¬ ((k : Int) < (i : Int)) := by omega
                            clear H
                            go_wp2
                            exact ⟨⟨i + 1, by omega, by go_num, HB10⟩, by simp [intOf]; omega⟩
                      · have hlt' : ¬ ((i : Int) < (N : Int)) := by omega
                        have HE := Go.Lib.hid (HB7.out.trans (H.out.mono HB7.out.size))
                        clear H
                        go_wp2
                        go_ret
                        exact ⟨rfl, HE.out⟩
            · have h0' : (eN == 0) = false := by simpa using hN0
              go_wp2
              go_ret
              exact ⟨rfl, HB6.out⟩
      · have hpr : cellsL S col = [] := by unfold cellsL; rw [if_neg hE]
        have hE' : (cellE S col == 0) = false := by simpa using hE
        rw [hpr] at HC
        generalize cellE S col = E at *
        clear HN HRE hpr hA2
        go_enter Try.func7, Try.ntmps7
        have h0 : Below w.heap.size w (w.alloc (.cells #[.int .i64 rx, .int .i64 ry, .int .i64 rw_, .int .i64 rh] 42)) := (Below.refl _ _).alloc (Nat.le_refl _) _
        have ha0 := hA.on9 h0
        clear hA
        go_wp2_with fail
        refine (alive_any _).mono ?_
        rintro e w1 ⟨rfl, h1⟩
        have h01 := h0.trans (h1.mono h0.size)
        go_wp2_with fail
        refine (HC.out _ (ha0.on9 h1)).mono ?_
        rintro e w2 ⟨Ap, cp, rfl, hop, h2⟩
        have h02 := h01.trans (h2.mono h01.size)
        clear h0 ha0 h1 h01 hop h2 HC
        go_wp2
        go_ret
        exact ⟨rfl, h02⟩
end Go.Proofs.Ytjippgflempdmaa
