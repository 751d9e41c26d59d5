/- Layer 10: the law FlexRows. -/
import Derived.Test.YthannibclhidcaaFlexG
namespace Go.Proofs.Ythannibclhidcaa
set_option linter.unusedVariables false
set_option linter.unusedSimpArgs false
open Go.RowKit
attribute [local go_sem] max_fold min_fold

theorem startsR_len (Z : List Int) (gap : Int) : (startsR Z gap).length ≤ 1024 := by
  unfold startsR
  split
  · rename_i h
    rw [startsL_len]
    unfold startsE at h
    split at h
    · omega
    · omega
  · simp
theorem rowR_len (L : List T3) (gap room : Int) : (rowR L gap room).length ≤ 1024 := by
  unfold rowR
  split
  · rename_i h
    obtain ⟨h0, hg, hr⟩ := rowE_ok h
    obtain ⟨h1, h2⟩ := chk_ok h0
    rw [(share_out h1 h2 (roomN_bd ((inB_iff _ _ _).1 hg) ((inB_iff _ _ _).1 hr) h1).2).1]
    exact h1
  · simp

set_option maxRecDepth 100000 in
set_option maxHeartbeats 2000000 in
theorem walkFlexRows (w : World) (Az : Option Addr) (cz : Nat) (Z : List Int) (hZ : At w.heap.size w Az (ints Z)) (hnilz : Az = none → Z.length = 0 ∧ cz = 0) (hlz : Z.length ≤ cz) (hcz : cz ≤ maxLen) (_ : ∀ n ∈ Z, (Lit.int .i64 n).wf = true)
    (A : Option Addr) (c : Nat) (L : List T3) (hA : At w.heap.size w A (t3s L)) (hnil : A = none → L.length = 0 ∧ c = 0) (hlc : L.length ≤ c) (hcm : c ≤ maxLen) (gap : Int) (hx : (Lit.int .i64 gap).wf = true) (room : Int) (hx2 : (Lit.int .i64 room).wf = true) :
    Calls Try.prog 3 #[.slice Az Z.length cz, .slice A L.length c, .int .i64 gap, .int .i64 room] w fun e w' => e = .returned (.bool true) ∧ Below w.heap.size w w' := by
  have hm : (L.length : Int) ≤ 9223372036854775807 := by unfold maxLen at hcm; omega
  have hmz : (Z.length : Int) ≤ 9223372036854775807 := by unfold maxLen at hcz; omega
  by_cases hbig : 5000 < L.length
  · have hb : (5000 : Int) < (L.length : Int) := by omega
    go_enter Try.func3, Try.ntmps3
    go_wp2
    go_ret
    exact ⟨rfl, Below.refl _ _⟩
  · have hb : ¬ (5000 : Int) < (L.length : Int) := by omega
    by_cases hbigz : 5000 < Z.length
    · have hb2 : (5000 : Int) < (Z.length : Int) := by omega
      go_enter Try.func3, Try.ntmps3
      go_wp2
      go_ret
      exact ⟨rfl, Below.refl _ _⟩
    · have hb2 : ¬ (5000 : Int) < (Z.length : Int) := by omega
      have hl2 : L.length ≤ 5000 := by omega
      have hlz2 : Z.length ≤ 5000 := by omega
      obtain ⟨S, hS⟩ : ∃ S, startsR Z gap = S := ⟨_, rfl⟩
      obtain ⟨E, hE⟩ : ∃ E, startsE Z gap = E := ⟨_, rfl⟩
      obtain ⟨R, hR⟩ : ∃ R, rowR L gap room = R := ⟨_, rfl⟩
      obtain ⟨G, hG⟩ : ∃ G, rowB L gap room = G := ⟨_, rfl⟩
      obtain ⟨F, hF⟩ : ∃ F, rowE L gap room = F := ⟨_, rfl⟩
      have hSl := startsR_len Z gap
      have hRl := rowR_len L gap room
      have hGl : (rowB L gap room).length = (rowR L gap room).length := startsL_len _ _
      rw [hS] at hSl
      rw [hR] at hRl
      rw [hG, hR] at hGl
      replace hGl : G.length ≤ 1024 := by omega
      have HST : Hid (∀ B A c w, At B w A (ints Z) → B ≤ w.heap.size → Calls Try.prog 14 #[.slice A Z.length c, .int .i64 gap] w (IntsE S E w)) := Go.Lib.hid fun B A c w h1 h2 => by
        rw [← hS, ← hE]
        exact Starts_any B A c Z gap w h1 h2 (by omega)
      have HRST : Hid (∀ B A c w, At B w A (ints Z) → B ≤ w.heap.size → Calls Try.prog 15 #[.slice A Z.length c, .int .i64 gap] w (IntsE S E w)) := Go.Lib.hid fun B A c w h1 h2 => by
        rw [← hS, ← hE]
        exact rStarts_any B A c Z gap w h1 h2 (by omega)
      have HROW : Hid (∀ B A c w, At B w A (t3s L) → B ≤ w.heap.size → Calls Try.prog 16 #[.slice A L.length c, .int .i64 gap, .int .i64 room] w (Int2E R G F w)) := Go.Lib.hid fun B A c w h1 h2 => by
        rw [← hR, ← hG, ← hF]
        exact Row_any B A c L gap room w h1 h2 (by omega)
      have HRROW : Hid (∀ B A c w, At B w A (t3s L) → B ≤ w.heap.size → Calls Try.prog 17 #[.slice A L.length c, .int .i64 gap, .int .i64 room] w (Int2E R G F w)) := Go.Lib.hid fun B A c w h1 h2 => by
        rw [← hR, ← hG, ← hF]
        exact rRow_any B A c L gap room w h1 h2 (by omega)
      obtain ⟨i0, hi, hz0, hz1, hz2⟩ := info_parts info_int
      clear hS hE hR hG hF hlc hcm hbig hx hx2 hlz hcz hm hmz hbigz
      go_enter Try.func3, Try.ntmps3
      go_wp2_with fail
      refine (own_any _ A c L _ hA (Nat.le_refl _) hl2 hnil).mono ?_
      rintro e w1 ⟨g1, c1, rfl, hin, hb1⟩
      have hs1 := hb1.size
      have hcap := (own_cap hin).1
      have hI1 := At.of_own hin
      have hA1 := hA.below hb1
      have hZ1 := hZ.below hb1
      have hq : (L.length : Int) ≤ (c1 : Int) := by omega
      clear hin hA hZ hcap
      go_wp2_with (first | (at_builtin; refine append_many Try.underlying22 hi hz0 hz1 hz2 rfl (by decide) rfl (.tmp 33) (.tmp 34) rfl w1.heap.size (.slice none 0 0) 0 [] Az Z.length cz w.heap.size (ints Z) rfl rfl hnilz (World.ownsRow_nil _ _ _ _) hZ1 (by rw [ints_len, Nat.mul_one]) (ints_one Z) ?_ ?_ (Nat.le_refl _) ?_))
      · unfold maxLen; omega
      · omega
      intro v2 w2 hown2 hg2
      have hb2 := (Below.refl w1.heap.size w1).grown hg2 (Nat.le_refl _) (fun k hk => by cases hk)
      have hs2 := hb2.size
      replace hown2 : w2.ownsRow w1.heap.size 3 1 v2 Z.length (ints Z) := by simpa using hown2
      clear hg2 hi hz0 hz1 hz2
      go_wp2_with (first | (at_builtin; refine append_int rfl (.tmp 36) (.tmp 37) rfl w1.heap.size _ Z 77 w2.heap.size rfl rfl (hown2.alloc _) (by simp [go_sem]) ?_ ?_ ?_))
      · omega
      · first | omega | (simp; omega)
      intro v3 w3 hown3 hg3 hne
      have hb3 := (hb2.alloc hs2 (.cells #[.int .i64 77] 3)).grown hg3 (by simp; omega) (own_ge hown2)
      have hown3' : w3.ownsRow w1.heap.size 3 1 v3 (Z.length + 1) (ints (Z ++ [77])) := own_len hown3 (by simp)
      obtain ⟨A3, c3, rfl⟩ := own_shape hown3'
      obtain ⟨g3, rfl, _, _⟩ := own_head hown3' (by omega)
      have hs3 := hb3.size
      have hcap3 := (own_cap hown3').1
      have hM3 := At.of_own hown3'
      have hU3 := hM3.take Z.length
      rw [ints_take] at hU3
      have hq3 : (Z.length : Int) ≤ (c3 : Int) := by omega
      have hI3 := (hI1.below hb3).mono hs3
      have hA3 := (hA1.below (hb3.mono hs1))
      have hZ3 := (hZ1.below (hb3.mono hs1))
      have hT3 := hI3.take (L.length * 3)
      rw [t3s_take] at hT3
      have hb03 := hb1.trans (hb3.mono hs1)
      clear hown3 hg3 hown2 hown3' hb1 hb2 hb3 hI1 hA1 hZ1 hcap3 hne
      go_wp2_with fail
      refine (HST.out _ _ _ _ hU3 (Nat.le_refl _)).mono ?_
      rintro e w4 ⟨Aa, ca, rfl, hown4, hb4⟩
      have hs4 := hb4.size
      go_wp2_with fail
      refine (HRST.out _ _ _ _ ((hZ3.mono (show w.heap.size ≤ w3.heap.size by omega)).below hb4) hs4).mono ?_
      rintro e w5 ⟨Ab, cb, rfl, hown5, hb5⟩
      have hs5 := hb5.size
      have hb35 := hb4.trans (hb5.mono hs4)
      go_wp2_with fail
      refine (HROW.out _ _ _ _ (hT3.below hb35) (by omega)).mono ?_
      rintro e w6 ⟨Ac, cc, Ad, cd, rfl, hownc, hownd, hcd, hb6⟩
      have hs6 := hb6.size
      have hb36 := hb35.trans (hb6.mono (by omega))
      go_wp2_with fail
      refine (HRROW.out _ _ _ _ ((hA3.mono (show w.heap.size ≤ w3.heap.size by omega)).below hb36) (by omega)).mono ?_
      rintro e w7 ⟨Au, cu, Av, cv, rfl, hownu, hownv, huv, hb7⟩
      have hs7 := hb7.size
      have hb37 := hb36.trans (hb7.mono (by omega))
      have ha7 := own_below' (own_below' (own_below' hown4 hb5) hb6) hb7
      have hb7' := own_below' (own_below' hown5 hb6) hb7
      have hc7 := own_below' hownc hb7
      have hd7 := own_below' hownd hb7
      have hac : ∀ k, (Value.slice Ac R.length cc).ownBlock = some k → (Value.slice Aa S.length ca).ownBlock ≠ some k := fun k h1 h2 => by
        have := (hown4.lt k h2).2
        have := (hownc.lt k h1).1
        omega
      have had : ∀ k, (Value.slice Ad G.length cd).ownBlock = some k → (Value.slice Aa S.length ca).ownBlock ≠ some k := fun k h1 h2 => by
        have := (hown4.lt k h2).2
        have := (hownd.lt k h1).1
        omega
      have hav : ∀ k, (Value.slice Av G.length cv).ownBlock = some k → (Value.slice Aa S.length ca).ownBlock ≠ some k := fun k h1 h2 => by
        have := (hown4.lt k h2).2
        have := (hownv.lt k h1).1
        omega
      have hcv : ∀ k, (Value.slice Av G.length cv).ownBlock = some k → (Value.slice Ac R.length cc).ownBlock ≠ some k := fun k h1 h2 => by
        have := (hownc.lt k h2).2
        have := (hownv.lt k h1).1
        omega
      have ha7b := own_mono ha7 (Nat.le_refl w3.heap.size)
      have hc7b := own_mono hc7 (show w3.heap.size ≤ w5.heap.size by omega)
      have HAC := Go.Lib.hid hac
      have HAD := Go.Lib.hid had
      have HAV := Go.Lib.hid hav
      have HCV := Go.Lib.hid hcv
      have HCD := Go.Lib.hid hcd
      clear hown4 hown5 hownc hownd hb4 hb5 hb6 hb7 hb35 hb36 hac had hav hcv hcd huv hc7 ha7
      go_wp2_with fail
      refine (same_any w7.heap.size Aa Ab ca cb S S _ (by omega) (by omega) (At.of_own ha7b) (At.of_own hb7')).mono ?_
      rintro e w8 ⟨rfl, hb8⟩
      have hs8 := hb8.size
      go_wp2_with fail
      refine (same_any w7.heap.size Ac Au cc cu R R _ (by omega) (by omega) ((At.of_own hc7b).below hb8) ((At.of_own hownu).below hb8)).mono ?_
      rintro e w9 ⟨rfl, hb9⟩
      have hs9 := hb9.size
      have hb79 := hb8.trans (hb9.mono hs8)
      go_wp2_with fail
      refine (same_any w7.heap.size Ad Av cd cv G G _ (by omega) (by omega) ((At.of_own hd7).below hb79) ((At.of_own hownv).below hb79)).mono ?_
      rintro e w10 ⟨rfl, hb10⟩
      have hs10 := hb10.size
      have hb710 := hb79.trans (hb10.mono (by omega))
      have hb310 := hb37.trans (hb710.mono (by omega))
      have ha10 := own_below' ha7b hb710
      have hc10 := own_below' hc7b hb710
      have hd10 := own_below' hd7 hb710
      have hv10 := own_below' hownv hb710
      clear ha7b hc7b hd7 hownv hownu hb7' hb8 hb9 hb79 hb10 hb710 hb37
      go_wp2
      go_loopw [21] (fun i wr => ∃ k : Nat, k ≤ S.length ∧ i = .int .i64 k ∧ Over w w10 w3.heap.size Aa S.length ca wr) (fun i _ => S.length - (intOf i).toNat)
      case atStart => exact ⟨0, by omega, rfl, Over.start rfl ha10⟩
      case round =>
        obtain ⟨k, hk, rfl, hov⟩ := hrel
        by_cases hlt : k < S.length
        · have hli : (k : Int) < (S.length : Int) := by omega
          obtain ⟨g, rfl, hg, ⟨u, hcell⟩, hfr, hgs, hov2⟩ := hov.cells hlt
          clear hov ha10 hc10 hd10 hv10
          go_wp2
          go_roundw
          case rel => exact ⟨k + 1, by omega, by go_num, hov2⟩
          case measure => simp [intOf]; omega
        · have hlt' : ¬ ((k : Int) < (S.length : Int)) := by omega
          have hc11 := hov.rest _ _ _ _ HAC.out hc10
          have hd11 := hov.rest _ _ _ _ HAD.out hd10
          have hv11 := hov.rest _ _ _ _ HAV.out hv10
          have hb311 := hb310.trans hov.below
          obtain ⟨w11, rfl⟩ : ∃ w11, w11 = wr := ⟨_, rfl⟩
          have hs11 := hov.size
          clear hov ha10 hc10 hd10 hv10 hb310
          go_wp2
          go_loopw [22] (fun i wr => ∃ k : Nat, k ≤ R.length ∧ i = .int .i64 k ∧ Over w w11 w3.heap.size Ac R.length cc wr) (fun i _ => R.length - (intOf i).toNat)
          case atStart => exact ⟨0, by omega, rfl, Over.start rfl hc11⟩
          case round =>
            obtain ⟨j, hj, rfl, hov⟩ := hrel
            by_cases hlt2 : j < R.length
            · have hli : (j : Int) < (R.length : Int) := by omega
              obtain ⟨g, rfl, hg, ⟨u, hcell⟩, hfr, hgs, hov2⟩ := hov.cells hlt2
              clear hov hc11 hd11 hv11
              go_wp2
              go_roundw
              case rel => exact ⟨j + 1, by omega, by go_num, hov2⟩
              case measure => simp [intOf]; omega
            · have hlt2' : ¬ ((j : Int) < (R.length : Int)) := by omega
              have hd12 := hov.rest _ _ _ _ HCD.out hd11
              have hv12 := hov.rest _ _ _ _ HCV.out hv11
              have hb312 := hb311.trans hov.below
              obtain ⟨w12, rfl⟩ : ∃ w12, w12 = wr := ⟨_, rfl⟩
              have hs12 := hb312.size
              clear hov hc11 hd11 hv11 hb311
              go_wp2_with fail
              refine (same_any _ Ad Av cd cv G G _ (by omega) (by omega) (At.of_own hd12) (At.of_own hv12)).mono ?_
              rintro e w13 ⟨rfl, hb13⟩
              have hs13 := hb13.size
              have hb313 := hb312.trans (hb13.mono hs12)
              clear hd12 hv12 hb13 hb312
              go_wp2_with fail
              refine (kept_any w3.heap.size _ _ _ _ L _ (hI3.below hb313) ((hA3.mono (show w.heap.size ≤ w3.heap.size by omega)).below hb313) (by omega) hl2).mono ?_
              rintro e w14 ⟨rfl, hb14⟩
              have hs14 := hb14.size
              have hb314 := hb313.trans (hb14.mono (by omega))
              clear hb313 hb14
              go_wp2_with fail
              refine (same_any w3.heap.size _ _ _ _ Z Z _ (by omega) (by omega) (hU3.below hb314) ((hZ3.mono (show w.heap.size ≤ w3.heap.size by omega)).below hb314)).mono ?_
              rintro e w15 ⟨rfl, hb15⟩
              have hs15 := hb15.size
              have hb315 := hb314.trans (hb15.mono (by omega))
              obtain ⟨g', o', e1, hg', hcell⟩ := (hM3.below hb315).int (k := Z.length) (by simp)
              injection e1 with e1
              injection e1 with e1 e2
              subst e1
              subst e2
              rw [show (Z ++ [77])[Z.length]'(by simp) = 77 by simp, Nat.zero_add] at hcell
              have hi1 : (Z.length : Int) < ((Z.length : Int) + 1) := by omega
              have hgs := World.block_lt_of_cell? _ _ hcell
              clear hM3 hU3 hI3 hA3 hZ3 hT3
              go_wp2
              go_ret
              exact ⟨rfl, hb03.trans (hb315.mono (by omega))⟩
end Go.Proofs.Ythannibclhidcaa
