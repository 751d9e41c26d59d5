/- Layer 11: the law GridLeast: the walk. -/
import Derived.Test.YtjippgflempdmaaGrLawL
namespace Go.Proofs.Ytjippgflempdmaa
set_option linter.unusedVariables false
set_option linter.unusedSimpArgs false
set_option maxRecDepth 100000
open Go.RowKit
attribute [local go_sem] max_fold min_fold

set_option maxRecDepth 100000 in
set_option maxHeartbeats 8000000 in
theorem walkGridLeast (w : World) (A : Option Addr) (c : Nat) (S : List Int) (hA : At w.heap.size w A (ints S)) (hnil : A = none → S.length = 0 ∧ c = 0) (hlc : S.length ≤ c) (hcm : c ≤ maxLen) (hw1 : ∀ n ∈ S, (Lit.int .i64 n).wf = true) (A2 : Option Addr) (c2 : Nat) (D : List Int) (hA2 : At w.heap.size w A2 (ints D)) (hnil2 : A2 = none → D.length = 0 ∧ c2 = 0) (hlc2 : D.length ≤ c2) (hcm2 : c2 ≤ maxLen) (hw2 : ∀ n ∈ D, (Lit.int .i64 n).wf = true) (col : Int) (hwc : (Lit.int .i64 col).wf = true) (gap : Int) (hwg : (Lit.int .i64 gap).wf = true) (A3 : Option Addr) (c3 : Nat) (O : List Int) (hA3 : At w.heap.size w A3 (ints O)) (hnil3 : A3 = none → O.length = 0 ∧ c3 = 0) (hlc3 : O.length ≤ c3) (hcm3 : c3 ≤ maxLen) (hw3 : ∀ n ∈ O, (Lit.int .i64 n).wf = true) :
    Calls Try.prog 6 #[.slice A S.length c, .slice A2 D.length c2, .int .i64 col, .int .i64 gap, .slice A3 O.length c3] w fun e w' => e = .returned (.bool true) ∧ Below w.heap.size w w' := by
  have hm1 : (S.length : Int) ≤ 9223372036854775807 := by unfold maxLen at hcm; omega
  have hm2 : (D.length : Int) ≤ 9223372036854775807 := by unfold maxLen at hcm2; omega
  have hm3 : (O.length : Int) ≤ 9223372036854775807 := by unfold maxLen at hcm3; omega
  clear hw1 hw2 hwc hwg hnil hnil2 hnil3 hlc hlc2 hlc3 hcm hcm2 hcm3
  by_cases hb1 : 60 < S.length
  · have hb1' : (60 : Int) < (S.length : Int) := by omega
    clear hA hA2 hA3 hw3
    go_enter Try.func6, Try.ntmps6
    go_wp2_with fail
    refine (alive_any _).mono ?_
    rintro e w1 ⟨rfl, h1⟩
    go_wp2
    go_ret
    exact ⟨rfl, h1⟩
  · by_cases hb2 : 60 < D.length
    · have hb1' : ¬ (60 : Int) < (S.length : Int) := by omega
      have hb2' : (60 : Int) < (D.length : Int) := by omega
      clear hA hA2 hA3 hw3
      go_enter Try.func6, Try.ntmps6
      go_wp2_with fail
      refine (alive_any _).mono ?_
      rintro e w1 ⟨rfl, h1⟩
      go_wp2
      go_ret
      exact ⟨rfl, h1⟩
    · have HW := Go.Lib.hid fun (w : World) h1 h2 => Widths_any w.heap.size A A2 c c2 S D col gap w h1 h2 (Nat.le_refl _) (by omega) (by omega)
      have HC := Go.Lib.hid fun (w : World) h1 => Cells_any w.heap.size A c S col w h1 (Nat.le_refl _) (by omega)
      by_cases hE : widE S D col gap = 0
      · obtain ⟨hask, hlen, hce⟩ := widE_ok hE
        obtain ⟨hok, hcol, hl⟩ := wid_ok hask hlen
        have hwr : widR S D col gap = widL (max col 1).toNat S D gap S.length := by unfold widR; rw [if_pos hE]
        have hpr : cellsL S col = ptsL (max col 1) S S.length := by unfold cellsL; rw [if_pos hce]
        rw [hwr, hE] at HW
        rw [hpr, hce] at HC
        obtain ⟨m, hm⟩ : ∃ m : Nat, (max col 1).toNat = m := ⟨_, rfl⟩
        rw [hm] at hok hcol HW
        rw [hcol] at HC
        have hwc : ∀ i, wideC (S.getD i 0) col = wideP m S i := fun i => by rw [wideC_eq, hcol]
        have HWC := Go.Lib.hid hwc
        clear hask hE hce hwr hpr hm hwc
        obtain ⟨N, hN⟩ : ∃ N, S.length = N := ⟨_, rfl⟩
        obtain ⟨M, hM⟩ : ∃ M, D.length = M := ⟨_, rfl⟩
        obtain ⟨Q, hQ⟩ : ∃ M, O.length = M := ⟨_, rfl⟩
        have hNM : N = M := by omega
        subst hNM
        rw [hN] at HW HC hok hl hb1 hm1 ⊢
        rw [hM] at HW hb2 hm2 ⊢
        rw [hQ] at hm3 ⊢
        have hgap := hok.g
        have hM1 := hok.m1
        have hM2 := hok.m2
        have HNN := Go.Lib.hid hN
        have HMM := Go.Lib.hid hM
        have HQQ := Go.Lib.hid hQ
        have HOK := Go.Lib.hid hok
        have HWL := Go.Lib.hid (widL_len m S D gap N)
        have HPL := Go.Lib.hid (ptsL_len (m : Int) S N)
        clear hN hM hQ hlen hok
        have hb1' : ¬ (60 : Int) < (N : Int) := by omega
        go_enter Try.func6, Try.ntmps6
        go_wp2_with fail
        refine (alive_any _).mono ?_
        rintro e w1 ⟨rfl, h1⟩
        go_wp2_with fail
        refine (HW.out _ (hA.on9 h1) (hA2.on9 h1)).mono ?_
        rintro e w2 ⟨Aw, cw, rfl, how, h2⟩
        rw [HWL.out] at how ⊢
        have h12 := h1.trans (h2.mono h1.size)
        go_wp2_with fail
        refine (HC.out _ (hA.on9 h12)).mono ?_
        rintro e w3 ⟨Ap, cp, rfl, hop, h3⟩
        rw [HPL.out] at hop ⊢
        have h13 := h12.trans (h3.mono h12.size)
        have HB3 := Go.Lib.hid h13
        have HA := Go.Lib.hid (hA.on9 h13)
        have HA2 := Go.Lib.hid (hA2.on9 h13)
        have HA3 := Go.Lib.hid (hA3.on9 h13)
        have HAW := Go.Lib.hid ((At.of_own how).on9 h3)
        have HAP := Go.Lib.hid (At.of_own hop)
        clear hA hA2 hA3 how hop h1 h2 h3 h12 h13 HW HC
        go_wp2
        obtain ⟨r0, hr0⟩ : ∃ r0, decide (m ≤ Q) = r0 := ⟨_, rfl⟩
        have HR0 : Hid (r0 = true → m ≤ Q) := Go.Lib.hid fun h => by
          rw [h] at hr0
          have := of_decide_eq_true hr0
          omega
        rw [hr0]
        have HWF := Go.Lib.hid hw3
        clear hr0 hw3
        go_loopw [18, 19] (fun a_ i_ wr => ∃ k : Nat, k ≤ m ∧ i_ = .int .i64 k ∧ (k = 0 ∨ r0 = true) ∧ Hid (wr.ownsRow w3.heap.size 3 1 a_ k (ints (othL O k)) ∧ Below w3.heap.size w3 wr)) (fun _ i_ _ => m - (intOf i_).toNat)
        case atStart => exact ⟨0, by omega, rfl, .inl rfl, Go.Lib.hid ⟨World.ownsRow_nil _ _ _ _, Below.refl _ _⟩⟩
        case round =>
          obtain ⟨k, hk, rfl, hkr, H⟩ := hrel
          by_cases hgo : k < m ∧ r0 = true
          · obtain ⟨hlt, hrt⟩ := hgo
            subst hrt
            have hli : (k : Int) < (m : Int) := by omega
            have hmQ := HR0.out rfl
            have hkQ : (k : Int) < (Q : Int) := by omega
            have hkl : k < O.length := by have := HQQ.out; omega
            obtain ⟨g, o, rfl, hg, x1⟩ := (HA3.out.on9 H.out.2).int hkl
            have hwf := HWF.out _ (List.getElem_mem hkl)
            have hob := otherN_bd O[k]
            have HT : Hid (othL O (k + 1) = othL O k ++ [otherN O[k]]) := Go.Lib.hid (by rw [othL_succ, show O.getD k 0 = O[k] by simp [List.getD, hkl]])
            have HK := Go.Lib.hid (othL_len O k)
            have lg := World.block_lt_of_cell? _ _ x1
            have hsr := H.out.2.size
            have hvb : -9223372036854775808 ≤ O[k] ∧ O[k] ≤ 9223372036854775807 := by simpa [Lit.wf, IntKind.min, IntKind.max, IntKind.signed, IntKind.bits] using hwf
            clear hwf
            generalize O[k] = v at *
            generalize othL O k = L at *
            have HOV : Hid (otherN v = v.tmod 20001 % 20001) := Go.Lib.hid rfl
            go_wp2_with (first | (at_builtin; refine append_num rfl (.tmp 84) (.tmp 92) rfl w3.heap.size _ L (v.tmod 20001 % 20001) wr.heap.size rfl rfl (own_len' (H.out.1.alloc _) HK.out.symm) (by simp [go_sem]) ?_ ?_ ?_))
            · rw [HK.out]; omega
            · (try simp); omega
            intro v3 w4 hown4 hg4 _
            have H4 : Hid (w4.ownsRow w3.heap.size 3 1 v3 (k + 1) (ints (L ++ [otherN v])) ∧ Below w3.heap.size w3 w4) := Go.Lib.hid ⟨own_len' hown4 (by simp [HK.out]), (H.out.2.alloc H.out.2.size _).grown hg4 (by have := H.out.2.size; simp; omega) (own_ge H.out.1)⟩
            rw [← HT.out] at H4
            clear hown4 hg4
            go_wp2
            go_roundw
            case rel => exact ⟨k + 1, by omega, by go_num, .inr trivial, H4⟩
            case measure => simp [intOf]; omega
          · have hlast : r0 = true → k = m := fun h => by
              by_cases e : k < m
              · exact absurd ⟨e, h⟩ hgo
              · omega
            have HLAST := Go.Lib.hid hlast
            obtain ⟨Ao, co, rfl⟩ := own_shape H.out.1
            obtain ⟨w5, hww⟩ : ∃ q, q = wr := ⟨_, rfl⟩
            subst hww
            have HO5 := Go.Lib.hid (At.of_own H.out.1)
            have HB5 := Go.Lib.hid (HB3.out.trans (H.out.2.mono HB3.out.size))
            have HB35 := Go.Lib.hid H.out.2
            clear H hlast hgo
            cases r0
            · skip
              have hk0 : k = 0 := by rcases hkr with h | h; exact h; cases h
              subst hk0
              have hlt' : (0 : Int) < (m : Int) := by omega
              clear hkr
              go_wp2
              have H2 : Hid (Below w5.heap.size w5 w5) := Go.Lib.hid (Below.refl _ _)
              go_loopw [17, 20, 21] (fun r_ i_ _ wr => ∃ j : Nat, j ≤ N ∧ i_ = .int .i64 j ∧ r_ = .bool (roomP m S D gap (othL O 0) false j) ∧ Hid (Below w5.heap.size w5 wr)) (fun _ i_ _ _ => N - (intOf i_).toNat)
              case atStart => exact ⟨0, by omega, rfl, rfl, H2⟩
              case round =>
                clear H2
                obtain ⟨j, hj, rfl, rfl, H⟩ := hrel
                obtain ⟨w6, hww⟩ : ∃ q, q = wr := ⟨_, rfl⟩
                subst hww
                by_cases hlt : j < N
                · have hli : (j : Int) < (N : Int) := by omega
                  obtain ⟨g1, o1, rfl, hg1, x1⟩ := (HA.out.on9 (HB35.out.trans (H.out.mono HB35.out.size))).num (k := j) (by rw [HNN.out]; exact hlt)
                  obtain ⟨g2, o2, rfl, hg2, x2⟩ := (HA2.out.on9 (HB35.out.trans (H.out.mono HB35.out.size))).num (k := j) (by rw [HMM.out]; exact hlt)
                  obtain ⟨g3, o3, rfl, hg3, y0, y1⟩ := (HAP.out.on9 (HB35.out.trans (H.out.mono HB35.out.size))).t2 (k := j) (by rw [HPL.out]; exact hlt)
                  have hpj : (ptsL (m : Int) S N)[j]'(by rw [HPL.out]; exact hlt) = ⟨colP m S j, (rowP m S j : Int)⟩ := by simp [ptsL]
                  rw [hpj] at y0
                  have hcb := col_bd (n := (m : Int)) (by omega) S j
                  have hwb := wide_bd (n := (m : Int)) (by omega) S j
                  have htg := tog_widL HOK.out hlt
                  have htb := tog_bd (widL_okW HOK.out) (colP m S j).toNat (colP m S j + wideP m S j).toNat hgap (by omega) (by omega)
                  have HWJ := Go.Lib.hid (HWC.out j)
                  have HRM : Hid (roomP m S D gap (othL O 0) false (j + 1) = (roomP m S D gap (othL O 0) false j && decide (D.getD j 0 ≤ togP (othL O 0) (colP m S j).toNat (colP m S j + wideP m S j).toNat gap))) := Go.Lib.hid rfl
                  have HT1 : Hid (∀ (A : Option Addr) (c : Nat) (l : List Int) (w : World), At w.heap.size w A (ints l) → l.length = m → okW l → Calls Try.prog 28 #[.slice A m c, .int .i64 (colP m S j), .int .i64 (wideP m S j), .int .i64 gap] w fun e w' => e = .returned (.int .i64 (togP l (colP m S j).toNat (colP m S j + wideP m S j).toNat gap)) ∧ w = w') := Go.Lib.hid fun A c l w h1 h2 h3 => by
                    have := together_any _ A c l gap (colP m S j).toNat (colP m S j + wideP m S j).toNat w h1 (by omega) (by omega) (by omega) h3 hgap
                    rwa [h2, show (((colP m S j).toNat : Nat) : Int) = colP m S j by omega, show (((colP m S j + wideP m S j).toNat : Nat) : Int) - colP m S j = wideP m S j by omega] at this
                  have HTW : Hid (∀ y : Ext w6, Calls Try.prog 28 #[.slice Aw m cw, .int .i64 (colP m S j), .int .i64 (wideP m S j), .int .i64 gap] (ext y) fun e w' => e = .returned (.int .i64 (togP (widL m S D gap N) (colP m S j).toNat (colP m S j + wideP m S j).toNat gap)) ∧ ext y = w') := Go.Lib.hid fun y => HT1.out Aw cw _ _ (HAW.out.on9 ((HB35.out.trans (H.out.mono HB35.out.size)).trans ((ext_below y).mono (by have := HB35.out.size; have := H.out.size; omega)))) HWL.out (widL_okW HOK.out)
                  generalize colP m S j = X at *
                  generalize wideP m S j = wd at *
                  generalize D.getD j 0 = d at *
                  generalize S.getD j 0 = sj at *
                  generalize togP (widL m S D gap N) X.toNat (X + wd).toNat gap = tg at *
                  obtain ⟨rm, hrm⟩ : ∃ b, roomP m S D gap (othL O 0) false j = b := ⟨_, rfl⟩
                  have hrf : rm = false := by cases h : rm; rfl; rw [h] at hrm; exact absurd (room_all hrm).1 (by simp)
                  subst hrf
                  rw [hrm] at HRM ⊢
                  have lg1 := World.block_lt_of_cell? _ _ x1
                  have lg2 := World.block_lt_of_cell? _ _ x2
                  have lg3 := World.block_lt_of_cell? _ _ y0
                  clear y1 hpj HT1 hrm
                  go_wp2_with fail
                  refine (wide_any _ _ _).mono ?_
                  rintro e w' ⟨rfl, rfl⟩
                  rw [HWJ.out]
                  have d1 : decide (X < 0) = false := by simp; omega
                  have d2 : decide ((m : Int) < X + wd) = false := by simp; omega
                  have d3 : decide (tg < d) = false := by simp; omega
                  go_wp2
                  refine region_ext mixed (by kernel_rfl) ?_
                  (repeat (go_big_quiet_step (first | (go_at_call 28; with_reducible exact in_ext_same (HTW.out _)))))
                  refine wpQuiet_nil ?_
                  intro w7 hb7
                  obtain ⟨hc7, _⟩ := bcell hb7
                  have z1 := (hc7 _ _ lg1).trans x1
                  have z2 := (hc7 _ _ lg2).trans x2
                  have z3 := (hc7 _ _ lg3).trans y0
                  have lz1 := World.block_lt_of_cell? _ _ z1
                  have lz2 := World.block_lt_of_cell? _ _ z2
                  have lz3 := World.block_lt_of_cell? _ _ z3
                  clear x1 x2 y0 HTW d1 d2 d3 lg1 lg2 lg3 hc7
                  go_wp2
                  refine region_ext mixed (by kernel_rfl) ?_
                  (repeat (go_big_quiet_step (fail)))
                  refine wpQuiet_nil ?_
                  intro w8 hb8
                  go_wp2
                  go_roundw
                  case rel => exact ⟨j + 1, by omega, by go_num, by rw [HRM.out]; simp [*], Go.Lib.hid ((H.out.trans (hb7.mono H.out.size)).trans (hb8.mono (by have := H.out.size; have := hb7.size; omega)))⟩
                  case measure => simp [intOf]; omega
                · have hlt' : ¬ ((j : Int) < (N : Int)) := by omega
                  have hjn : j = N := by omega
                  subst hjn
                  have hrm : roomP m S D gap (othL O 0) false j = false := by cases h : roomP m S D gap (othL O 0) false j; rfl; exact absurd (room_all h).1 (by simp)
                  rw [hrm]
                  clear hrm
                  have HB6 := Go.Lib.hid (HB35.out.trans (H.out.mono HB35.out.size))
                  have HB56 := Go.Lib.hid H.out
                  clear H
                  go_wp2
                  have H3 : Hid (Below w6.heap.size w6 w6) := Go.Lib.hid (Below.refl _ _)
                  go_loopw [22, 23, 24] (fun m_ t_ i_ wr => ∃ q : Nat, q ≤ m ∧ i_ = .int .i64 q ∧ m_ = .int .i64 (psum (widL m S D gap j) q) ∧ t_ = .int .i64 (0) ∧ Hid (Below w6.heap.size w6 wr)) (fun _ _ i_ _ => m - (intOf i_).toNat)
                  case atStart => exact ⟨0, by omega, rfl, rfl, rfl, H3⟩
                  case round =>
                    clear H3
                    obtain ⟨q, hq, rfl, rfl, rfl, H⟩ := hrel
                    obtain ⟨w9, hww⟩ : ∃ q, q = wr := ⟨_, rfl⟩
                    subst hww
                    by_cases hlt : q < m
                    · have hli : (q : Int) < (m : Int) := by omega
                      have hp := psumW (widL_okW HOK.out) q
                      have hv := okW_at (widL_okW HOK.out) q
                      have HS : Hid (psum (widL m S D gap j) (q + 1) = psum (widL m S D gap j) q + (widL m S D gap j).getD q 0) := Go.Lib.hid rfl
                      obtain ⟨g1, o1, rfl, hg1, x1⟩ := (HAW.out.on9 (HB6.out.trans (H.out.mono HB6.out.size))).num (k := q) (by rw [HWL.out]; exact hlt)
                      have lg1 := World.block_lt_of_cell? _ _ x1
                      generalize psum (widL m S D gap j) q = pw at *
                      generalize (widL m S D gap j).getD q 0 = vw at *
                      go_wp2
                      go_roundw
                      case rel => exact ⟨q + 1, by omega, by go_num, by rw [HS.out], rfl, H⟩
                      case measure => simp [intOf]; omega
                    · have hlt' : ¬ ((q : Int) < (m : Int)) := by omega
                      have HE := Go.Lib.hid ((HB5.out.trans (HB56.out.mono HB5.out.size)).trans (H.out.mono (by have := HB5.out.size; have := HB56.out.size; omega)))
                      clear H
                      go_wp2
                      go_ret
                      exact ⟨rfl, HE.out⟩
            · skip
              have hkm := HLAST.out rfl
              subst hkm
              have hlt' : ¬ ((k : Int) < (k : Int)) := by omega
              clear hkr
              go_wp2
              have H2 : Hid (Below w5.heap.size w5 w5) := Go.Lib.hid (Below.refl _ _)
              go_loopw [17, 20, 21] (fun r_ i_ _ wr => ∃ j : Nat, j ≤ N ∧ i_ = .int .i64 j ∧ r_ = .bool (roomP k S D gap (othL O k) true j) ∧ Hid (Below w5.heap.size w5 wr)) (fun _ i_ _ _ => N - (intOf i_).toNat)
              case atStart => exact ⟨0, by omega, rfl, rfl, H2⟩
              case round =>
                clear H2
                obtain ⟨j, hj, rfl, rfl, H⟩ := hrel
                obtain ⟨w6, hww⟩ : ∃ q, q = wr := ⟨_, rfl⟩
                subst hww
                by_cases hlt : j < N
                · have hli : (j : Int) < (N : Int) := by omega
                  obtain ⟨g1, o1, rfl, hg1, x1⟩ := (HA.out.on9 (HB35.out.trans (H.out.mono HB35.out.size))).num (k := j) (by rw [HNN.out]; exact hlt)
                  obtain ⟨g2, o2, rfl, hg2, x2⟩ := (HA2.out.on9 (HB35.out.trans (H.out.mono HB35.out.size))).num (k := j) (by rw [HMM.out]; exact hlt)
                  obtain ⟨g3, o3, rfl, hg3, y0, y1⟩ := (HAP.out.on9 (HB35.out.trans (H.out.mono HB35.out.size))).t2 (k := j) (by rw [HPL.out]; exact hlt)
                  have hpj : (ptsL (k : Int) S N)[j]'(by rw [HPL.out]; exact hlt) = ⟨colP k S j, (rowP k S j : Int)⟩ := by simp [ptsL]
                  rw [hpj] at y0
                  have hcb := col_bd (n := (k : Int)) (by omega) S j
                  have hwb := wide_bd (n := (k : Int)) (by omega) S j
                  have htg := tog_widL HOK.out hlt
                  have htb := tog_bd (widL_okW HOK.out) (colP k S j).toNat (colP k S j + wideP k S j).toNat hgap (by omega) (by omega)
                  have HWJ := Go.Lib.hid (HWC.out j)
                  have HRM : Hid (roomP k S D gap (othL O k) true (j + 1) = (roomP k S D gap (othL O k) true j && decide (D.getD j 0 ≤ togP (othL O k) (colP k S j).toNat (colP k S j + wideP k S j).toNat gap))) := Go.Lib.hid rfl
                  have HT1 : Hid (∀ (A : Option Addr) (c : Nat) (l : List Int) (w : World), At w.heap.size w A (ints l) → l.length = k → okW l → Calls Try.prog 28 #[.slice A k c, .int .i64 (colP k S j), .int .i64 (wideP k S j), .int .i64 gap] w fun e w' => e = .returned (.int .i64 (togP l (colP k S j).toNat (colP k S j + wideP k S j).toNat gap)) ∧ w = w') := Go.Lib.hid fun A c l w h1 h2 h3 => by
                    have := together_any _ A c l gap (colP k S j).toNat (colP k S j + wideP k S j).toNat w h1 (by omega) (by omega) (by omega) h3 hgap
                    rwa [h2, show (((colP k S j).toNat : Nat) : Int) = colP k S j by omega, show (((colP k S j + wideP k S j).toNat : Nat) : Int) - colP k S j = wideP k S j by omega] at this
                  have HTW : Hid (∀ y : Ext w6, Calls Try.prog 28 #[.slice Aw k cw, .int .i64 (colP k S j), .int .i64 (wideP k S j), .int .i64 gap] (ext y) fun e w' => e = .returned (.int .i64 (togP (widL k S D gap N) (colP k S j).toNat (colP k S j + wideP k S j).toNat gap)) ∧ ext y = w') := Go.Lib.hid fun y => HT1.out Aw cw _ _ (HAW.out.on9 ((HB35.out.trans (H.out.mono HB35.out.size)).trans ((ext_below y).mono (by have := HB35.out.size; have := H.out.size; omega)))) HWL.out (widL_okW HOK.out)
                  have HTO : Hid (∀ w7, Below w6.heap.size w6 w7 → ∀ y : Ext w7, Calls Try.prog 28 #[.slice Ao k co, .int .i64 (colP k S j), .int .i64 (wideP k S j), .int .i64 gap] (ext y) fun e w' => e = .returned (.int .i64 (togP (othL O k) (colP k S j).toNat (colP k S j + wideP k S j).toNat gap)) ∧ ext y = w') := Go.Lib.hid fun w7 h7 y => HT1.out Ao co _ _ (HO5.out.on9 (H.out.trans ((h7.trans ((ext_below y).mono h7.size)).mono H.out.size))) (othL_len O k) (othL_ok O k)
                  generalize colP k S j = X at *
                  generalize wideP k S j = wd at *
                  generalize D.getD j 0 = d at *
                  generalize S.getD j 0 = sj at *
                  generalize togP (widL k S D gap N) X.toNat (X + wd).toNat gap = tg at *
                  obtain ⟨tq, hto⟩ : ∃ t, togP (othL O k) X.toNat (X + wd).toNat gap = t := ⟨_, rfl⟩
                  rw [hto] at HTO HRM
                  clear hto
                  obtain ⟨rm, hrm⟩ : ∃ b, roomP k S D gap (othL O k) true j = b := ⟨_, rfl⟩
                  rw [hrm] at HRM ⊢
                  have lg1 := World.block_lt_of_cell? _ _ x1
                  have lg2 := World.block_lt_of_cell? _ _ x2
                  have lg3 := World.block_lt_of_cell? _ _ y0
                  clear y1 hpj HT1 hrm
                  go_wp2_with fail
                  refine (wide_any _ _ _).mono ?_
                  rintro e w' ⟨rfl, rfl⟩
                  rw [HWJ.out]
                  have d1 : decide (X < 0) = false := by simp; omega
                  have d2 : decide ((k : Int) < X + wd) = false := by simp; omega
                  have d3 : decide (tg < d) = false := by simp; omega
                  go_wp2
                  refine region_ext mixed (by kernel_rfl) ?_
                  (repeat (go_big_quiet_step (first | (go_at_call 28; with_reducible exact in_ext_same (HTW.out _)))))
                  refine wpQuiet_nil ?_
                  intro w7 hb7
                  obtain ⟨hc7, _⟩ := bcell hb7
                  have z1 := (hc7 _ _ lg1).trans x1
                  have z2 := (hc7 _ _ lg2).trans x2
                  have z3 := (hc7 _ _ lg3).trans y0
                  have lz1 := World.block_lt_of_cell? _ _ z1
                  have lz2 := World.block_lt_of_cell? _ _ z2
                  have lz3 := World.block_lt_of_cell? _ _ z3
                  clear x1 x2 y0 HTW d1 d2 d3 lg1 lg2 lg3 hc7
                  cases rm
                  · skip
                    go_wp2
                    refine region_ext mixed (by kernel_rfl) ?_
                    (repeat (go_big_quiet_step (first | (go_at_call 28; with_reducible exact in_ext_same (HTO.out _ hb7 _)))))
                    refine wpQuiet_nil ?_
                    intro w8 hb8
                    go_wp2
                    go_roundw
                    case rel => exact ⟨j + 1, by omega, by go_num, by rw [HRM.out]; simp [*], Go.Lib.hid ((H.out.trans (hb7.mono H.out.size)).trans (hb8.mono (by have := H.out.size; have := hb7.size; omega)))⟩
                    case measure => simp [intOf]; omega
                  · by_cases hdt : d ≤ tq
                    · have hd9 : decide (d ≤ tq) = true := by simpa using hdt
                      go_wp2
                      refine region_ext mixed (by kernel_rfl) ?_
                      (repeat (go_big_quiet_step (first | (go_at_call 28; with_reducible exact in_ext_same (HTO.out _ hb7 _)))))
                      refine wpQuiet_nil ?_
                      intro w8 hb8
                      go_wp2
                      go_roundw
                      case rel => exact ⟨j + 1, by omega, by go_num, by rw [HRM.out]; simp [*], Go.Lib.hid ((H.out.trans (hb7.mono H.out.size)).trans (hb8.mono (by have := H.out.size; have := hb7.size; omega)))⟩
                      case measure => simp [intOf]; omega
                    · have hd9 : decide (d ≤ tq) = false := by simpa using hdt
                      go_wp2
                      refine region_ext mixed (by kernel_rfl) ?_
                      (repeat (go_big_quiet_step (first | (go_at_call 28; with_reducible exact in_ext_same (HTO.out _ hb7 _)))))
                      refine wpQuiet_nil ?_
                      intro w8 hb8
                      go_wp2
                      go_roundw
                      case rel => exact ⟨j + 1, by omega, by go_num, by rw [HRM.out]; simp [*], Go.Lib.hid ((H.out.trans (hb7.mono H.out.size)).trans (hb8.mono (by have := H.out.size; have := hb7.size; omega)))⟩
                      case measure => simp [intOf]; omega
                · have hlt' : ¬ ((j : Int) < (N : Int)) := by omega
                  have hjn : j = N := by omega
                  subst hjn
                  obtain ⟨rm, hrm⟩ : ∃ b, roomP k S D gap (othL O k) true j = b := ⟨_, rfl⟩
                  rw [hrm]
                  have HLE : Hid (rm = true → ∀ q, q ≤ k → psum (widL k S D gap j) q ≤ psum (othL O k) q) := Go.Lib.hid fun h q hq => least_below HOK.out (othL_ok O k) (room_all (hrm.trans h)).2 hq
                  clear hrm
                  cases rm
                  · clear HLE
                    have HB6 := Go.Lib.hid (HB35.out.trans (H.out.mono HB35.out.size))
                    have HB56 := Go.Lib.hid H.out
                    clear H
                    go_wp2
                    have H3 : Hid (Below w6.heap.size w6 w6) := Go.Lib.hid (Below.refl _ _)
                    go_loopw [22, 23, 24] (fun m_ t_ i_ wr => ∃ q : Nat, q ≤ k ∧ i_ = .int .i64 q ∧ m_ = .int .i64 (psum (widL k S D gap j) q) ∧ t_ = .int .i64 (0) ∧ Hid (Below w6.heap.size w6 wr)) (fun _ _ i_ _ => k - (intOf i_).toNat)
                    case atStart => exact ⟨0, by omega, rfl, rfl, rfl, H3⟩
                    case round =>
                      clear H3
                      obtain ⟨q, hq, rfl, rfl, rfl, H⟩ := hrel
                      obtain ⟨w9, hww⟩ : ∃ q, q = wr := ⟨_, rfl⟩
                      subst hww
                      by_cases hlt : q < k
                      · have hli : (q : Int) < (k : Int) := by omega
                        have hp := psumW (widL_okW HOK.out) q
                        have hv := okW_at (widL_okW HOK.out) q
                        have HS : Hid (psum (widL k S D gap j) (q + 1) = psum (widL k S D gap j) q + (widL k S D gap j).getD q 0) := Go.Lib.hid rfl
                        obtain ⟨g1, o1, rfl, hg1, x1⟩ := (HAW.out.on9 (HB6.out.trans (H.out.mono HB6.out.size))).num (k := q) (by rw [HWL.out]; exact hlt)
                        have lg1 := World.block_lt_of_cell? _ _ x1
                        generalize psum (widL k S D gap j) q = pw at *
                        generalize (widL k S D gap j).getD q 0 = vw at *
                        go_wp2
                        go_roundw
                        case rel => exact ⟨q + 1, by omega, by go_num, by rw [HS.out], rfl, H⟩
                        case measure => simp [intOf]; omega
                      · have hlt' : ¬ ((q : Int) < (k : Int)) := by omega
                        have HE := Go.Lib.hid ((HB5.out.trans (HB56.out.mono HB5.out.size)).trans (H.out.mono (by have := HB5.out.size; have := HB56.out.size; omega)))
                        clear H
                        go_wp2
                        go_ret
                        exact ⟨rfl, HE.out⟩
                  · replace HLE := Go.Lib.hid (HLE.out rfl)
                    have HB6 := Go.Lib.hid (HB35.out.trans (H.out.mono HB35.out.size))
                    have HB56 := Go.Lib.hid H.out
                    clear H
                    go_wp2
                    have H3 : Hid (Below w6.heap.size w6 w6) := Go.Lib.hid (Below.refl _ _)
                    go_loopw [22, 23, 24] (fun m_ t_ i_ wr => ∃ q : Nat, q ≤ k ∧ i_ = .int .i64 q ∧ m_ = .int .i64 (psum (widL k S D gap j) q) ∧ t_ = .int .i64 (psum (othL O k) q) ∧ Hid (Below w6.heap.size w6 wr)) (fun _ _ i_ _ => k - (intOf i_).toNat)
                    case atStart => exact ⟨0, by omega, rfl, rfl, rfl, H3⟩
                    case round =>
                      clear H3
                      obtain ⟨q, hq, rfl, rfl, rfl, H⟩ := hrel
                      obtain ⟨w9, hww⟩ : ∃ q, q = wr := ⟨_, rfl⟩
                      subst hww
                      by_cases hlt : q < k
                      · have hli : (q : Int) < (k : Int) := by omega
                        have hp := psumW (widL_okW HOK.out) q
                        have hv := okW_at (widL_okW HOK.out) q
                        have HS : Hid (psum (widL k S D gap j) (q + 1) = psum (widL k S D gap j) q + (widL k S D gap j).getD q 0) := Go.Lib.hid rfl
                        obtain ⟨g1, o1, rfl, hg1, x1⟩ := (HAW.out.on9 (HB6.out.trans (H.out.mono HB6.out.size))).num (k := q) (by rw [HWL.out]; exact hlt)
                        have lg1 := World.block_lt_of_cell? _ _ x1
                        have hpo := psumW (othL_ok O k) q
                        have hvo := okW_at (othL_ok O k) q
                        have HSO : Hid (psum (othL O k) (q + 1) = psum (othL O k) q + (othL O k).getD q 0) := Go.Lib.hid rfl
                        have hle := HLE.out (q + 1) (by omega)
                        rw [HS.out, HSO.out] at hle
                        obtain ⟨g2, o2, rfl, hg2, x2⟩ := (HO5.out.on9 (HB56.out.trans (H.out.mono HB56.out.size))).num (k := q) (by rw [othL_len]; exact hlt)
                        have lg2 := World.block_lt_of_cell? _ _ x2
                        generalize psum (othL O k) q = po at *
                        generalize (othL O k).getD q 0 = vo at *
                        generalize psum (widL k S D gap j) q = pw at *
                        generalize (widL k S D gap j).getD q 0 = vw at *
                        go_wp2
                        go_roundw
                        case rel => exact ⟨q + 1, by omega, by go_num, by rw [HS.out], by rw [HSO.out], H⟩
                        case measure => simp [intOf]; omega
                      · have hlt' : ¬ ((q : Int) < (k : Int)) := by omega
                        have HE := Go.Lib.hid ((HB5.out.trans (HB56.out.mono HB5.out.size)).trans (H.out.mono (by have := HB5.out.size; have := HB56.out.size; omega)))
                        clear H
                        go_wp2
                        go_ret
                        exact ⟨rfl, HE.out⟩
      · have hwr : widR S D col gap = [] := by unfold widR; rw [if_neg hE]
        have hE' : (widE S D col gap == 0) = false := by simpa using hE
        rw [hwr] at HW
        generalize widE S D col gap = E at *
        clear hA3 hw3 hwr
        have hb1' : ¬ (60 : Int) < (S.length : Int) := by omega
        have hb2' : ¬ (60 : Int) < (D.length : Int) := by omega
        obtain ⟨eC, heC⟩ : ∃ e, cellE S col = e := ⟨_, rfl⟩
        obtain ⟨nP, hnP⟩ : ∃ e, (cellsL S col).length = e := ⟨_, rfl⟩
        rw [heC] at HC
        clear heC
        go_enter Try.func6, Try.ntmps6
        go_wp2_with fail
        refine (alive_any _).mono ?_
        rintro e w1 ⟨rfl, h1⟩
        go_wp2_with fail
        refine (HW.out _ (hA.on9 h1) (hA2.on9 h1)).mono ?_
        rintro e w2 ⟨Aw, cw, rfl, how, h2⟩
        have h12 := h1.trans (h2.mono h1.size)
        go_wp2_with fail
        refine (HC.out _ (hA.on9 h12)).mono ?_
        rintro e w3 ⟨Ap, cp, rfl, hop, h3⟩
        rw [hnP]
        have h13 := h12.trans (h3.mono h12.size)
        clear how hop h1 h2 h3 h12 HW HC hA hA2 hnP
        go_wp2
        go_ret
        exact ⟨rfl, h13⟩
end Go.Proofs.Ytjippgflempdmaa
