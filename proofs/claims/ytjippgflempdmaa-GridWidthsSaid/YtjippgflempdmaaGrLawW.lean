/- Layer 11: the law GridWidths. Printed by gen_w.py. -/
import Derived.Test.YtjippgflempdmaaMgGrF
namespace Go.Proofs.Ytjippgflempdmaa
set_option linter.unusedVariables false
set_option linter.unusedSimpArgs false
set_option maxRecDepth 100000
open Go.RowKit
attribute [local go_sem] max_fold min_fold

theorem ints_set9 (l : List Int) (k : Nat) (u : Int) : (ints l).set k (.int .i64 u) = ints (l.set k u) := by simp [ints, List.map_set]
/-- Numbers are written over; nothing else changes. -/
structure SMem9 (base : Nat) (w : World) (A : Option Addr) (n c : Nat) (M : List Int) (wr : World) : Prop where
  len : M.length = n
  own : wr.ownsRow base 3 1 (.slice A n c) n (ints M)
  grown : w.grownBy wr (Value.slice A n c).ownBlock
theorem SMem9.store {base : Nat} {w wr : World} {g n c : Nat} {M : List Int} (h : SMem9 base w (some ⟨g, 0, none⟩) n c M wr) (j : Nat) (u : Int) : SMem9 base w (some ⟨g, 0, none⟩) n c (M.set j u) (wr.setCell ⟨g, j, none⟩ (.int .i64 u)) := by
  have h1 := own_store h.own j (.int .i64 u)
  rw [ints_set9] at h1
  refine ⟨by rw [List.length_set, h.len], h1, h.grown.os, h.grown.tape, h.grown.output, by simpa using h.grown.size, fun k hk hne => ?_⟩
  rw [heap_setCell_other _ _ _ _ (fun e => ?_)]
  · exact h.grown.block k hk hne
  · exact hne (by rw [show k = g from e]; rfl)
theorem At.grown9 {B : Nat} {w w' : World} {A : Option Addr} {xs : List Value} {row : Option Nat} (h : At B w A xs) (hg : w.grownBy w' row) (hr : ∀ k, row = some k → B ≤ k) : At B w' A xs := by
  intro hn
  obtain ⟨g, o, hA, hlt, hc⟩ := h hn
  refine ⟨g, o, hA, hlt, fun j v hj => ?_⟩
  exact hg.cell (a := ⟨g, o + j, none⟩) (hc j v hj) (fun e => by
    have := hr g e.symm
    omega)
theorem mark_take (L : List Int) : (ints (L ++ [777])).take L.length = ints L := by
  rw [ints_append, List.take_append_of_le_length (by rw [ints_len]; omega), ← ints_len, List.take_length]
theorem mark_at {w : World} {base g n c : Nat} {L : List Int} (h : w.ownsRow base 3 1 (.slice (some ⟨g, 0, none⟩) (n + 1) c) (n + 1) (ints (L ++ [777]))) (hn : L.length = n) : At w.heap.size w (some ⟨g, 0, none⟩) (ints L) := by
  have := (At.of_own h).take L.length
  rwa [mark_take] at this
theorem mark_all {w : World} {base g n c : Nat} {xs : List Value} (h : w.ownsRow base 3 1 (.slice (some ⟨g, 0, none⟩) (n + 1) c) (n + 1) xs) : At w.heap.size w (some ⟨g, 0, none⟩) xs := At.of_own h

theorem wlen_bd (S D : List Int) (col gap : Int) : (widR S D col gap).length ≤ 100000 := by
  unfold widR
  split
  · rename_i h
    rw [widL_len]
    unfold widE at h
    split at h
    · rename_i h0
      have := num1_ok (ask_ok h0 (num1 64 col) (by simp))
      omega
    · rename_i h0
      exact absurd h h0
  · simp
theorem hlen_bd (S D : List Int) (col : Int) (hl : S.length ≤ 100000) : (hgtR S D col).length ≤ 100000 := by
  unfold hgtR
  split
  · rw [hgtL_len]
    have := rw_most (n := max col 1) (by omega) S S.length
    omega
  · simp

set_option maxRecDepth 100000 in
set_option maxHeartbeats 8000000 in
theorem walkGridWidths (w : World) (A : Option Addr) (c : Nat) (S : List Int) (hA : At w.heap.size w A (ints S)) (hnil : A = none → S.length = 0 ∧ c = 0) (hlc : S.length ≤ c) (hcm : c ≤ maxLen) (hw1 : ∀ n ∈ S, (Lit.int .i64 n).wf = true) (A2 : Option Addr) (c2 : Nat) (D : List Int) (hA2 : At w.heap.size w A2 (ints D)) (hnil2 : A2 = none → D.length = 0 ∧ c2 = 0) (hlc2 : D.length ≤ c2) (hcm2 : c2 ≤ maxLen) (hw2 : ∀ n ∈ D, (Lit.int .i64 n).wf = true) (col : Int) (hcol : (Lit.int .i64 col).wf = true) (gap : Int) (hgap : (Lit.int .i64 gap).wf = true) :
    Calls Try.prog 4 #[.slice A S.length c, .slice A2 D.length c2, .int .i64 col, .int .i64 gap] w fun e w' => e = .returned (.bool true) ∧ Below w.heap.size w w' := by
  have hm1 : (S.length : Int) ≤ 9223372036854775807 := by unfold maxLen at hcm; omega
  have hm2 : (D.length : Int) ≤ 9223372036854775807 := by unfold maxLen at hcm2; omega
  clear hw1 hw2
  obtain ⟨N, hN⟩ : ∃ N, S.length = N := ⟨_, rfl⟩
  obtain ⟨M, hM⟩ : ∃ M, D.length = M := ⟨_, rfl⟩
  cases hg1 : muchB S.length
  · cases hg2 : muchB D.length
    · have hs1 : S.length ≤ 3000 := by simp [muchB] at hg1; omega
      have hs2 : D.length ≤ 3000 := by simp [muchB] at hg2; omega
      have HM1 := Go.Lib.hid fun w => hg1 ▸ much_any (S.length : Int) w
      have HM2 := Go.Lib.hid fun w => hg2 ▸ much_any (D.length : Int) w
      have HX := Go.Lib.hid fun (B : Nat) (w : World) (h : At B w A (ints S)) => ints_any B A c S w h hs1 hnil
      have HY := Go.Lib.hid fun (B : Nat) (w : World) (h : At B w A2 (ints D)) => ints_any B A2 c2 D w h hs2 hnil2
      have HKX := Go.Lib.hid fun (B : Nat) (A A2 : Option Addr) (c c2 : Nat) (w : World) h1 h2 h3 h4 h5 => keptInts_any B A A2 c c2 S w h1 h2 h3 hs1 h4 h5
      have HKY := Go.Lib.hid fun (B : Nat) (A A2 : Option Addr) (c c2 : Nat) (w : World) h1 h2 h3 h4 h5 => keptInts_any B A A2 c c2 D w h1 h2 h3 hs2 h4 h5
      have HC := Go.Lib.hid fun (A : Option Addr) (c : Nat) (w : World) h1 => Cells_any w.heap.size A c S col w h1 (Nat.le_refl _) (by omega)
      have HW := Go.Lib.hid fun (A A2 : Option Addr) (c c2 : Nat) (w : World) h1 h2 => Widths_any w.heap.size A A2 c c2 S D col gap w h1 h2 (Nat.le_refl _) (by omega) (by omega)
      have HH := Go.Lib.hid fun (A A2 : Option Addr) (c c2 : Nat) (w : World) h1 h2 => Heights_any w.heap.size A A2 c c2 S D col w h1 h2 (Nat.le_refl _) (by omega) (by omega)
      have HRC := Go.Lib.hid fun (A : Option Addr) (c : Nat) (w : World) h1 => rCells_any w.heap.size A c S col w h1 (Nat.le_refl _) (by omega)
      have HRW := Go.Lib.hid fun (A A2 : Option Addr) (c c2 : Nat) (w : World) h1 h2 => rWidths_any w.heap.size A A2 c c2 S D col gap w h1 h2 (Nat.le_refl _) (by omega) (by omega)
      have HRH := Go.Lib.hid fun (A A2 : Option Addr) (c c2 : Nat) (w : World) h1 h2 => rHeights_any w.heap.size A A2 c c2 S D col w h1 h2 (Nat.le_refl _) (by omega) (by omega)
      have HPL : Hid ((cellsL S col).length ≤ 100000) := Go.Lib.hid (by unfold cellsL; split; rw [ptsL_len]; omega; simp)
      have HWL : Hid ((widR S D col gap).length ≤ 100000) := Go.Lib.hid (wlen_bd S D col gap)
      have HHL : Hid ((hgtR S D col).length ≤ 100000) := Go.Lib.hid (hlen_bd S D col (by omega))
      rw [hN] at HM1 HX HKX HC HW HH HRC HRW HRH hs1 ⊢
      rw [hM] at HM2 HY HKY HW HH HRW HRH hs2 ⊢
      rw [hN] at hm1
      rw [hM] at hm2
      have HNN := Go.Lib.hid hN
      have HMM := Go.Lib.hid hM
      generalize cellsL S col = P at *
      generalize cellE S col = eC at *
      generalize widR S D col gap = Wd at *
      generalize widE S D col gap = eW at *
      generalize hgtR S D col = Hd at *
      generalize hgtE S D col = eH at *
      obtain ⟨nP, hnP⟩ : ∃ n, P.length = n := ⟨_, rfl⟩
      obtain ⟨nW, hnW⟩ : ∃ n, Wd.length = n := ⟨_, rfl⟩
      obtain ⟨nH, hnH⟩ : ∃ n, Hd.length = n := ⟨_, rfl⟩
      have HPT := Go.Lib.hid fun (A A2 : Option Addr) (c c2 : Nat) (w : World) h1 h2 => points_any w.heap.size A A2 c c2 P w (by have := HPL.out; omega) h1 h2
      have HAW := Go.Lib.hid fun (A A2 : Option Addr) (c c2 : Nat) (w : World) h1 h2 => alike_any w.heap.size A A2 c c2 Wd w (by have := HWL.out; omega) h1 h2
      have HAH := Go.Lib.hid fun (A A2 : Option Addr) (c c2 : Nat) (w : World) h1 h2 => alike_any w.heap.size A A2 c c2 Hd w (by have := HHL.out; omega) h1 h2
      rw [hnP] at HPT
      rw [hnW] at HAW HWL
      rw [hnH] at HAH HHL
      have hWl := HWL.out
      have hHl := HHL.out
      have HPL2 := Go.Lib.hid hnP
      have HWL2 := Go.Lib.hid hnW
      have HHL2 := Go.Lib.hid hnH
      clear hg1 hg2 hN hM hlc hlc2 hcm hcm2 hnil hnil2 hnP hnW hnH HPL HWL HHL hcol hgap
      go_enter Try.func4, Try.ntmps4
      have b0 := Below.refl w.heap.size w
      have HA0 := Go.Lib.hid hA
      have HA20 := Go.Lib.hid hA2
      go_wp2_with fail
      refine (alive_any _).mono ?_
      rintro e w1 ⟨rfl, h1⟩
      replace hA := hA.on9 h1
      replace hA2 := hA2.on9 h1
      have c1 := b0.trans (h1.mono b0.size)
      have t1 := h1.size
      clear b0 h1
      go_wp2_with fail
      refine (HM1.out _).mono ?_
      rintro e w' ⟨rfl, rfl⟩
      go_wp2_with fail
      refine (HM2.out _).mono ?_
      rintro e w' ⟨rfl, rfl⟩
      go_wp2_with fail
      refine (HX.out _ _ hA).mono ?_
      rintro e w4 ⟨gx, cx, rfl, hcx, hmx, hox, h4⟩
      replace hA := hA.on9 h4
      replace hA2 := hA2.on9 h4
      have c4 := c1.trans (h4.mono c1.size)
      have t4 := h4.size
      clear c1 h4
      have sx := fun k h => hox.lt k h
      go_wp2_with fail
      refine (HY.out _ _ hA2).mono ?_
      rintro e w5 ⟨gy, cy, rfl, hcy, hmy, hoy, h5⟩
      replace hA := hA.on9 h5
      replace hA2 := hA2.on9 h5
      replace hox := own_below' hox h5
      have c5 := c4.trans (h5.mono c4.size)
      have t5 := h5.size
      clear c4 h5
      have sy := fun k h => hoy.lt k h
      have hx := mark_at hox HNN.out
      have hy := mark_at hoy HMM.out
      go_wp2_with fail
      refine (HC.out _ _ _ hx).mono ?_
      rintro e w6 ⟨Ap, cp, rfl, hop, h6⟩
      replace hA := hA.on9 h6
      replace hA2 := hA2.on9 h6
      replace hx := hx.on9 h6
      replace hy := hy.on9 h6
      replace hox := own_below' hox h6
      replace hoy := own_below' hoy h6
      have c6 := c5.trans (h6.mono c5.size)
      have t6 := h6.size
      clear c5 h6
      rw [HPL2.out] at hop ⊢
      go_wp2_with fail
      refine (HW.out _ _ _ _ _ hx hy).mono ?_
      rintro e w7 ⟨Aw, cw, rfl, how, h7⟩
      replace hA := hA.on9 h7
      replace hA2 := hA2.on9 h7
      replace hx := hx.on9 h7
      replace hy := hy.on9 h7
      replace hox := own_below' hox h7
      replace hoy := own_below' hoy h7
      replace hop := own_below' hop h7
      have c7 := c6.trans (h7.mono c6.size)
      have t7 := h7.size
      clear c6 h7
      rw [HWL2.out] at how ⊢
      have sw := fun k h => how.lt k h
      go_wp2_with fail
      refine (HH.out _ _ _ _ _ hx hy).mono ?_
      rintro e w8 ⟨Ah, ch, rfl, hoh, h8⟩
      replace hA := hA.on9 h8
      replace hA2 := hA2.on9 h8
      replace hx := hx.on9 h8
      replace hy := hy.on9 h8
      replace hox := own_below' hox h8
      replace hoy := own_below' hoy h8
      replace hop := own_below' hop h8
      replace how := own_below' how h8
      have c8 := c7.trans (h8.mono c7.size)
      have t8 := h8.size
      clear c7 h8
      rw [HHL2.out] at hoh ⊢
      have sh := fun k h => hoh.lt k h
      go_wp2_with fail
      refine (HW.out _ _ _ _ _ hx hy).mono ?_
      rintro e w9 ⟨Av, cv, rfl, hov, h9⟩
      replace hA := hA.on9 h9
      replace hA2 := hA2.on9 h9
      replace hx := hx.on9 h9
      replace hy := hy.on9 h9
      replace hox := own_below' hox h9
      replace hoy := own_below' hoy h9
      replace hop := own_below' hop h9
      replace how := own_below' how h9
      replace hoh := own_below' hoh h9
      have c9 := c8.trans (h9.mono c8.size)
      have t9 := h9.size
      clear c8 h9
      rw [HWL2.out] at hov ⊢
      have sv := fun k h => hov.lt k h
      go_wp2_with fail
      refine (HRC.out _ _ _ hA).mono ?_
      rintro e w10 ⟨Bp, dp, rfl, hoq, h10⟩
      replace hA := hA.on9 h10
      replace hA2 := hA2.on9 h10
      replace hx := hx.on9 h10
      replace hy := hy.on9 h10
      replace hox := own_below' hox h10
      replace hoy := own_below' hoy h10
      replace hop := own_below' hop h10
      replace how := own_below' how h10
      replace hoh := own_below' hoh h10
      replace hov := own_below' hov h10
      have c10 := c9.trans (h10.mono c9.size)
      have t10 := h10.size
      clear c9 h10
      rw [HPL2.out] at hoq ⊢
      go_wp2_with fail
      refine (HRW.out _ _ _ _ _ hA hA2).mono ?_
      rintro e w11 ⟨Bw, dw, rfl, hoz, h11⟩
      replace hA := hA.on9 h11
      replace hA2 := hA2.on9 h11
      replace hx := hx.on9 h11
      replace hy := hy.on9 h11
      replace hox := own_below' hox h11
      replace hoy := own_below' hoy h11
      replace hop := own_below' hop h11
      replace how := own_below' how h11
      replace hoh := own_below' hoh h11
      replace hov := own_below' hov h11
      replace hoq := own_below' hoq h11
      have c11 := c10.trans (h11.mono c10.size)
      have t11 := h11.size
      clear c10 h11
      rw [HWL2.out] at hoz ⊢
      have sz := fun k h => hoz.lt k h
      go_wp2_with fail
      refine (HRH.out _ _ _ _ _ hA hA2).mono ?_
      rintro e w12 ⟨Bh, dh, rfl, hoi, h12⟩
      replace hA := hA.on9 h12
      replace hA2 := hA2.on9 h12
      replace hx := hx.on9 h12
      replace hy := hy.on9 h12
      replace hox := own_below' hox h12
      replace hoy := own_below' hoy h12
      replace hop := own_below' hop h12
      replace how := own_below' how h12
      replace hoh := own_below' hoh h12
      replace hov := own_below' hov h12
      replace hoq := own_below' hoq h12
      replace hoz := own_below' hoz h12
      have c12 := c11.trans (h12.mono c11.size)
      have t12 := h12.size
      clear c11 h12
      rw [HHL2.out] at hoi ⊢
      go_wp2_with fail
      refine (HPT.out _ _ _ _ _ (At.of_own hop) (At.of_own hoq)).mono ?_
      rintro e w13 ⟨rfl, h13⟩
      replace hA := hA.on9 h13
      replace hA2 := hA2.on9 h13
      replace hx := hx.on9 h13
      replace hy := hy.on9 h13
      replace hox := own_below' hox h13
      replace hoy := own_below' hoy h13
      replace hop := own_below' hop h13
      replace how := own_below' how h13
      replace hoh := own_below' hoh h13
      replace hov := own_below' hov h13
      replace hoq := own_below' hoq h13
      replace hoz := own_below' hoz h13
      replace hoi := own_below' hoi h13
      have c13 := c12.trans (h13.mono c12.size)
      have t13 := h13.size
      clear c12 h13
      go_wp2_with fail
      refine (HAW.out _ _ _ _ _ (At.of_own how) (At.of_own hoz)).mono ?_
      rintro e w14 ⟨rfl, h14⟩
      replace hA := hA.on9 h14
      replace hA2 := hA2.on9 h14
      replace hx := hx.on9 h14
      replace hy := hy.on9 h14
      replace hox := own_below' hox h14
      replace hoy := own_below' hoy h14
      replace hop := own_below' hop h14
      replace how := own_below' how h14
      replace hoh := own_below' hoh h14
      replace hov := own_below' hov h14
      replace hoq := own_below' hoq h14
      replace hoz := own_below' hoz h14
      replace hoi := own_below' hoi h14
      have c14 := c13.trans (h14.mono c13.size)
      have t14 := h14.size
      clear c13 h14
      go_wp2_with fail
      refine (HAH.out _ _ _ _ _ (At.of_own hoh) (At.of_own hoi)).mono ?_
      rintro e w15 ⟨rfl, h15⟩
      replace hA := hA.on9 h15
      replace hA2 := hA2.on9 h15
      replace hx := hx.on9 h15
      replace hy := hy.on9 h15
      replace hox := own_below' hox h15
      replace hoy := own_below' hoy h15
      replace hop := own_below' hop h15
      replace how := own_below' how h15
      replace hoh := own_below' hoh h15
      replace hov := own_below' hov h15
      replace hoq := own_below' hoq h15
      replace hoz := own_below' hoz h15
      replace hoi := own_below' hoi h15
      have c15 := c14.trans (h15.mono c14.size)
      have t15 := h15.size
      clear c14 h15
      clear hop hoq hoi
      go_wp2
      have H16 : Hid (∃ M, SMem9 w6.heap.size w15 Aw nW cw M w15) := Go.Lib.hid ⟨_, HWL2.out, how, World.grownBy.refl _ _⟩
      have HO16 := Go.Lib.hid (⟨hox, hoy, hoh, hov, hoz⟩ : _ ∧ _ ∧ _ ∧ _ ∧ _)
      clear hox hoy hoh hov hoz how hA hA2 hx hy
      go_loopw [27] (fun i wr => ∃ k : Nat, k ≤ nW ∧ i = .int .i64 k ∧ Hid (∃ M, SMem9 w6.heap.size w15 Aw nW cw M wr)) (fun i _ => nW - (intOf i).toNat)
      case atStart => exact ⟨0, by omega, rfl, H16⟩
      case round =>
        clear H16
        obtain ⟨k, hk, rfl, HS⟩ := hrel
        obtain ⟨w16, hww⟩ : ∃ q, q = wr := ⟨_, rfl⟩
        subst hww
        by_cases hlt : k < nW
        · have hli : (k : Int) < (nW : Int) := by omega
          obtain ⟨M9, hS⟩ := HS.out
          obtain ⟨g, hgA, _⟩ := own_pos hS.own (by omega)
          obtain ⟨y, hy9⟩ : ∃ y, (ints M9)[k]? = some (.int .i64 y) := ⟨_, ints_at M9 k (by rw [hS.len]; exact hlt)⟩
          subst hgA
          have f1 := At.frozen_own hS.own k
          have x1 := hS.own.cellAt k (by omega)
          rw [hy9] at x1
          have lg := World.block_lt_of_cell? _ _ x1
          have HS2 := Go.Lib.hid (hS.store k (-9))
          clear hS HS hy9
          go_wp2
          go_roundw
          case rel => exact ⟨k + 1, by omega, by go_num, Go.Lib.hid ⟨_, HS2.out⟩⟩
          case measure => simp [intOf]; omega
        · have hlt' : ¬ ((k : Int) < (nW : Int)) := by omega
          obtain ⟨M16, hS16⟩ := HS.out
          obtain ⟨hox0, hoy0, hoh0, hov0, hoz0⟩ := HO16.out
          have hg16 := hS16.grown
          have hox := own_apart hox0 hg16 (fun k h1 h2 => by have := sx k h1; have := sw k h2; omega)
          have hoy := own_apart hoy0 hg16 (fun k h1 h2 => by have := sy k h1; have := sw k h2; omega)
          have hoh := own_apart hoh0 hg16 (fun k h1 h2 => by have := sh k h1; have := sw k h2; omega)
          have hov := own_apart hov0 hg16 (fun k h1 h2 => by have := sv k h1; have := sw k h2; omega)
          have hoz := own_apart hoz0 hg16 (fun k h1 h2 => by have := sz k h1; have := sw k h2; omega)
          have c16 := c15.grown hg16 c15.size (fun k h2 => by have := sw k h2; omega)
          have t16 := hg16.size
          have hA := (HA0.out.below c16).mono c16.size
          have hA2 := (HA20.out.below c16).mono c16.size
          have hx := mark_at hox HNN.out
          have hy := mark_at hoy HMM.out
          clear c15 hS16 hg16 HS HO16 hox0 hoy0 hoh0 hov0 hoz0
          go_wp2
          have H17 : Hid (∃ M, SMem9 w7.heap.size w16 Ah nH ch M w16) := Go.Lib.hid ⟨_, HHL2.out, hoh, World.grownBy.refl _ _⟩
          have HO17 := Go.Lib.hid (⟨hox, hoy, hov, hoz⟩ : _ ∧ _ ∧ _ ∧ _)
          clear hox hoy hov hoz hoh hA hA2 hx hy
          go_loopw [28] (fun i wr => ∃ k : Nat, k ≤ nH ∧ i = .int .i64 k ∧ Hid (∃ M, SMem9 w7.heap.size w16 Ah nH ch M wr)) (fun i _ => nH - (intOf i).toNat)
          case atStart => exact ⟨0, by omega, rfl, H17⟩
          case round =>
            clear H17
            obtain ⟨k, hk, rfl, HS⟩ := hrel
            obtain ⟨w17, hww⟩ : ∃ q, q = wr := ⟨_, rfl⟩
            subst hww
            by_cases hlt : k < nH
            · have hli : (k : Int) < (nH : Int) := by omega
              obtain ⟨M9, hS⟩ := HS.out
              obtain ⟨g, hgA, _⟩ := own_pos hS.own (by omega)
              obtain ⟨y, hy9⟩ : ∃ y, (ints M9)[k]? = some (.int .i64 y) := ⟨_, ints_at M9 k (by rw [hS.len]; exact hlt)⟩
              subst hgA
              have f1 := At.frozen_own hS.own k
              have x1 := hS.own.cellAt k (by omega)
              rw [hy9] at x1
              have lg := World.block_lt_of_cell? _ _ x1
              have HS2 := Go.Lib.hid (hS.store k (-8))
              clear hS HS hy9
              go_wp2
              go_roundw
              case rel => exact ⟨k + 1, by omega, by go_num, Go.Lib.hid ⟨_, HS2.out⟩⟩
              case measure => simp [intOf]; omega
            · have hlt' : ¬ ((k : Int) < (nH : Int)) := by omega
              obtain ⟨M17, hS17⟩ := HS.out
              obtain ⟨hox0, hoy0, hov0, hoz0⟩ := HO17.out
              have hg17 := hS17.grown
              have hox := own_apart hox0 hg17 (fun k h1 h2 => by have := sx k h1; have := sh k h2; omega)
              have hoy := own_apart hoy0 hg17 (fun k h1 h2 => by have := sy k h1; have := sh k h2; omega)
              have hov := own_apart hov0 hg17 (fun k h1 h2 => by have := sv k h1; have := sh k h2; omega)
              have hoz := own_apart hoz0 hg17 (fun k h1 h2 => by have := sz k h1; have := sh k h2; omega)
              have c17 := c16.grown hg17 c16.size (fun k h2 => by have := sh k h2; omega)
              have t17 := hg17.size
              have hA := (HA0.out.below c17).mono c17.size
              have hA2 := (HA20.out.below c17).mono c17.size
              have hx := mark_at hox HNN.out
              have hy := mark_at hoy HMM.out
              clear c16 hS17 hg17 HS HO17 hox0 hoy0 hov0 hoz0
              go_wp2_with fail
              refine (HAW.out _ _ _ _ _ (At.of_own hov) (At.of_own hoz)).mono ?_
              rintro e w18 ⟨rfl, h18⟩
              replace hA := hA.on9 h18
              replace hA2 := hA2.on9 h18
              replace hx := hx.on9 h18
              replace hy := hy.on9 h18
              replace hox := own_below' hox h18
              replace hoy := own_below' hoy h18
              replace hov := own_below' hov h18
              replace hoz := own_below' hoz h18
              have c18 := c17.trans (h18.mono c17.size)
              have t18 := h18.size
              clear c17 h18
              go_wp2_with fail
              refine (HKX.out _ _ _ _ _ _ (mark_all hox) hA (Nat.le_refl _) hcx hmx).mono ?_
              rintro e w19 ⟨rfl, h19⟩
              replace hA := hA.on9 h19
              replace hA2 := hA2.on9 h19
              replace hx := hx.on9 h19
              replace hy := hy.on9 h19
              replace hox := own_below' hox h19
              replace hoy := own_below' hoy h19
              replace hov := own_below' hov h19
              replace hoz := own_below' hoz h19
              have c19 := c18.trans (h19.mono c18.size)
              have t19 := h19.size
              clear c18 h19
              go_wp2_with fail
              refine (HKY.out _ _ _ _ _ _ (mark_all hoy) hA2 (Nat.le_refl _) hcy hmy).mono ?_
              rintro e w20 ⟨rfl, h20⟩
              replace hA := hA.on9 h20
              replace hA2 := hA2.on9 h20
              replace hx := hx.on9 h20
              replace hy := hy.on9 h20
              replace hox := own_below' hox h20
              replace hoy := own_below' hoy h20
              replace hov := own_below' hov h20
              replace hoz := own_below' hoz h20
              have c20 := c19.trans (h20.mono c19.size)
              have t20 := h20.size
              clear c19 h20
              go_wp2
              go_ret
              exact ⟨rfl, c20⟩
    · have HM1 := Go.Lib.hid fun w => hg1 ▸ much_any (S.length : Int) w
      have HM2 := Go.Lib.hid fun w => hg2 ▸ much_any (D.length : Int) w
      rw [hN] at HM1 hm1 ⊢
      rw [hM] at HM2 hm2 ⊢
      clear hg1 hg2 hN hM hA hA2
      go_enter Try.func4, Try.ntmps4
      go_wp2_with fail
      refine (alive_any _).mono ?_
      rintro e w1 ⟨rfl, h1⟩
      go_wp2_with fail
      refine (HM1.out _).mono ?_
      rintro e w' ⟨rfl, rfl⟩
      go_wp2_with fail
      refine (HM2.out _).mono ?_
      rintro e w' ⟨rfl, rfl⟩
      go_wp2
      go_ret
      exact ⟨rfl, h1⟩
  · have HM1 := Go.Lib.hid fun w => hg1 ▸ much_any (S.length : Int) w
    rw [hN] at HM1 hm1 ⊢
    rw [hM] at hm2 ⊢
    clear hg1 hN hM hA hA2
    go_enter Try.func4, Try.ntmps4
    go_wp2_with fail
    refine (alive_any _).mono ?_
    rintro e w1 ⟨rfl, h1⟩
    go_wp2_with fail
    refine (HM1.out _).mono ?_
    rintro e w' ⟨rfl, rfl⟩
    go_wp2
    go_ret
    exact ⟨rfl, h1⟩
end Go.Proofs.Ytjippgflempdmaa

