/- Layer 9: the program's Most. -/
import Derived.Test.YthannibclhidcaaLeQ
namespace Go.Proofs.Ythannibclhidcaa
set_option linter.unusedVariables false
set_option linter.unusedSimpArgs false
open Go.RowKit
attribute [local go_sem] max_fold min_fold

theorem step_hot' {i : Nat} {p q : Nat} {r : Int} {s : St} (h : s.x.getD p 0 < s.x.getD q 0 + r) : stepB i (turn ⟨(p : Int), (q : Int), r⟩) s = ⟨s.x.set p (s.x.getD q 0 + r), s.m.set p (i : Int), (p : Int)⟩ := step_hot h
theorem step_cold' {i : Nat} {p q : Nat} {r : Int} {s : St} (h : ¬ s.x.getD p 0 < s.x.getD q 0 + r) : stepB i (turn ⟨(p : Int), (q : Int), r⟩) s = s := step_cold h
theorem topOk_no {most : Int} (h : topOk most = false) : most < 0 ∨ 1099511627776 < most := by
  simp only [topOk, decide_eq_false_iff_not] at h
  omega
theorem topOk_yes {most : Int} (h : topOk most = true) : 0 ≤ most ∧ most ≤ 1099511627776 := by simpa [topOk] using h

set_option maxRecDepth 100000 in
set_option maxHeartbeats 8000000 in
theorem Most_any (B : Nat) (A : Option Addr) (c : Nat) (n : Int) (L : List T3) (most : Int) (w : World) (hA : At B w A (t3s L)) (hB : B ≤ w.heap.size) (hl : L.length ≤ 9000000000000000000) :
    Calls Try.prog 43 #[.int .i64 n, .slice A L.length c, .int .i64 most] w (IntsE (topR n L most) (topE n L most) w) := by
  by_cases h0 : chkN n L = 0
  · obtain ⟨m, rfl, hm, hlm, hL⟩ := chkN_ok h0
    have HC := Go.Lib.hid (fun w h1 h2 => h0 ▸ checkN_any B A c (m : Int) L w h1 h2 hl)
    obtain ⟨v1, v2, v3⟩ := top_vals (most := most) h0
    cases hok : topOk most
    · obtain ⟨e1, e2⟩ := v1 hok
      rw [e1, e2]
      have hno := topOk_no hok
      clear v1 v2 v3 hok
      rcases hno with hno | hno
      · go_enter Try.func43, Try.ntmps43
        go_wp2_with fail
        refine (HC.out _ hA hB).mono ?_
        rintro e w1 ⟨rfl, hb1⟩
        go_wp2
        go_ret2
        exact IntsE.none hb1
      · have hno2 : ¬ most < 0 := by omega
        go_enter Try.func43, Try.ntmps43
        go_wp2_with fail
        refine (HC.out _ hA hB).mono ?_
        rintro e w1 ⟨rfl, hb1⟩
        go_wp2
        go_ret2
        exact IntsE.none hb1
    · have hyes := topOk_yes hok
      have hno1 : ¬ most < 0 := by omega
      have hno2 : ¬ 1099511627776 < most := by omega
      have hsv := Solve_any B A c (m : Int) L
      by_cases hlast : (fin m L).last = -1
      · obtain ⟨hs1, hs2⟩ := (solve_vals h0).1 hlast
        rw [hs1, hs2] at hsv
        have HS := Go.Lib.hid fun w h1 h2 => hsv w h1 h2 hl
        obtain ⟨v4, v5, v6⟩ := v3 hok hlast
        have hLT := okL_turn hL
        have hft := fin_turn_ok hL hlast
        have hlt : (turnL L).length = L.length := turnL_len L
        obtain ⟨E, hE⟩ : ∃ E, topE m L most = E := ⟨_, rfl⟩
        obtain ⟨R, hR⟩ : ∃ R, topR m L most = R := ⟨_, rfl⟩
        rw [hE, hR] at v5 v6 ⊢
        have HV5 := Go.Lib.hid v5
        have HV6 := Go.Lib.hid v6
        have hxlF := (fin_len m (turnL L)).1
        have HFX := Go.Lib.hid fun v hv => fin_bd (v := v) hLT hv
        have HST := Go.Lib.hid (MSt.start m (turnL L))
        have HLT := Go.Lib.hid hLT
        have HFT := Go.Lib.hid hft
        have HTL := Go.Lib.hid hlt
        have HBT := Go.Lib.hid (bk_turn L)
        have HO := Go.Lib.hid hL
        obtain ⟨len, hlen⟩ : ∃ len, L.length = len := ⟨_, rfl⟩
        rw [hlen] at HS HC ⊢
        have HM := Go.Lib.hid hlen
        have hlm2 : len ≤ 4096 := by omega
        clear v1 v2 v3 v4 v5 v6 hok hsv hs1 hs2 hlast h0 hLT hft hlt hE hR hlen hl hlm hL hyes
        go_enter Try.func43, Try.ntmps43
        go_wp2_with fail
        refine (HC.out _ hA hB).mono ?_
        rintro e w1 ⟨rfl, hb1⟩
        have hs1 := hb1.size
        go_wp2_with fail
        refine (HS.out _ (hA.below (hb1.mono hB)) (by omega)).mono ?_
        rintro e w2 ⟨A2, c2, rfl, _, hb2⟩
        have hb12 := hb1.trans (hb2.mono hs1)
        have hs12 := hb12.size
        go_wp2_with (first | (at_make; refine make_ints rfl (.tmp 40) (.tmp 40) rfl w.heap.size m rfl rfl (by omega) hs12 ?_))
        intro w3 hown3 hgr3
        have hb3 : Below w.heap.size w w3 := hb12.grown hgr3 hs12 (fun k hk => by cases hk)
        have hq3 : QMem B w A L m w2.heap.size (List.replicate 0 most ++ List.replicate (m - 0) 0) w3 := ⟨hb3, hA.below (hb3.mono hB), by simpa using hown3⟩
        generalize w2.heap.size = gx at *
        have HQ3 := Go.Lib.hid hq3
        clear HC HS hA hb1 hs1 hb2 hb12 hs12 hown3 hgr3 hb3 hq3
        go_wp2
        go_loopw [44] (fun i wr => ∃ k : Nat, k ≤ m ∧ i = .int .i64 k ∧ Hid (QMem B w A L m gx (List.replicate k most ++ List.replicate (m - k) 0) wr)) (fun i _ => m - (intOf i).toNat)
        case atStart => exact ⟨0, by omega, rfl, HQ3⟩
        case round =>
          clear HQ3
          obtain ⟨k, hk, rfl, HQ⟩ := hrel
          by_cases hlt : k < m
          · have hli : (k : Int) < (m : Int) := by omega
            obtain ⟨x1, f1⟩ := HQ.out.cellX (by simp; omega) hlt
            have hnx := HQ.out.storeX hB k most
            rw [fill_step m k most hlt] at hnx
            have HNX := Go.Lib.hid hnx
            have hgl := HQ.out.gxl.2
            clear HQ hnx
            generalize (List.replicate k most ++ List.replicate (m - k) 0).getD k 0 = y at *
            go_wp2
            go_roundw
            case rel => exact ⟨k + 1, by omega, by go_num, HNX⟩
            case measure => simp [intOf]; omega
          · have hlt' : ¬ ((k : Int) < (m : Int)) := by omega
            have hkm : k = m := by omega
            have HQ1 : Hid (QMem B w A L m gx (dn most (start m).x) wr) := Go.Lib.hid (by
              have := HQ.out
              rw [hkm, Nat.sub_self, List.replicate_zero, List.append_nil] at this
              rw [dn_start]
              exact this)
            clear HQ
            generalize start m = s0 at *
            obtain ⟨F, hF⟩ : ∃ F, fin m (turnL L) = F := ⟨_, rfl⟩
            have HSTOP := Go.Lib.hid fun (f : Nat) (s r : St) (h : MMid m (turnL L) f (turnL L).length s r) (hs : MSt m (turnL L) f s) (hl : r.last = -1) => (hF ▸ h.stop hs HLT.out HFT.out hl : r.x = F.x)
            have HMORE := Go.Lib.hid fun (f : Nat) (s r : St) (h : MMid m (turnL L) f (turnL L).length s r) (hs : MSt m (turnL L) f s) (hl : ¬ r.last = -1) => h.more hs HLT.out HFT.out hl
            rw [hF] at HV5 HV6 hxlF
            clear HFT HFX hF hlt hkm
            go_wp2
            go_loopg [13] (m + 1) (fun gk ch wr => ∃ (s : St) (b : Bool), ch = .bool b ∧ Hid (QMem B w A L m gx (dn most s.x) wr) ∧ Hid ((b = true ∧ ∃ f, gk = f + 1 ∧ MSt m (turnL L) f s) ∨ (b = false ∧ s.x = F.x)))
            case atStart => exact ⟨s0, true, rfl, HQ1, Go.Lib.hid (.inl ⟨rfl, m, rfl, HST.out⟩)⟩
            case round =>
              clear HQ1 HST
              obtain ⟨s, bo, rfl, HQ, HD⟩ := hrel
              cases bo
              · have hsx : s.x = F.x := by
                  rcases HD.out with ⟨h, _⟩ | ⟨_, h⟩
                  · cases h
                  · exact h
                have HQF : Hid (QMem B w A L m gx (dn most F.x) wr) := Go.Lib.hid (hsx ▸ HQ.out)
                have hgl := HQF.out.gxl.2
                clear HD HQ hsx HSTOP HMORE
                go_wp2
                go_loop [82] (fun i => ∃ k : Nat, k ≤ m ∧ i = .int .i64 k ∧ Hid (∀ v ∈ (dn most F.x).take k, 0 ≤ v)) (fun i => m - (intOf i).toNat)
                case atStart => exact ⟨0, by omega, rfl, Go.Lib.hid fun v hv => by simp at hv⟩
                case round =>
                  obtain ⟨k, hk, rfl, HP⟩ := hrel
                  by_cases hlt : k < m
                  · have hli : (k : Int) < (m : Int) := by omega
                    have hdl : (dn most F.x).length = m := by rw [dn_len]; exact hxlF
                    obtain ⟨x1, f1⟩ := HQF.out.cellX hdl hlt
                    have hmem : (dn most F.x).getD k 0 ∈ dn most F.x := mem_getD9 (by omega)
                    have hv6 := HV6.out _ hmem
                    have htk : ∀ v ∈ (dn most F.x).take (k + 1), v ∈ (dn most F.x).take k ∨ v = (dn most F.x).getD k 0 := fun v hv => by
                      rw [List.take_succ_eq_append_getElem (by omega)] at hv
                      rcases List.mem_append.1 hv with h | h
                      · exact .inl h
                      · right
                        simp at h
                        rw [h]
                        simp [List.getD, show k < (dn most F.x).length by omega]
                    have HTK := Go.Lib.hid htk
                    have HV7 := Go.Lib.hid hv6
                    clear hmem hv6 htk
                    generalize (dn most F.x).getD k 0 = y at *
                    by_cases hy : y < 0
                    · obtain ⟨e1, e2⟩ := HV7.out hy
                      subst e1 e2
                      go_wp2
                      go_ret2
                      exact IntsE.none HQF.out.below
                    · have HP2 : Hid (∀ v ∈ (dn most F.x).take (k + 1), 0 ≤ v) := Go.Lib.hid fun v hv => by
                        rcases HTK.out v hv with h | h
                        · exact HP.out v h
                        · omega
                      go_wp2
                      go_round
                      case rel => exact ⟨k + 1, by omega, by go_num, HP2⟩
                      case measure => simp [intOf]; omega
                  · have hlt' : ¬ ((k : Int) < (m : Int)) := by omega
                    have hkm : k = m := by omega
                    have hdl : (dn most F.x).length = m := by rw [dn_len]; exact hxlF
                    obtain ⟨e1, e2⟩ := HV5.out (by
                      have := HP.out
                      rw [hkm, ← hdl, List.take_length] at this
                      exact this)
                    subst e1 e2
                    go_wp2
                    go_ret2
                    exact IntsE.of hdl HQF.out.ox (Nat.le_refl _) HQF.out.below
              · have hst : ∃ f, gk = f + 1 ∧ MSt m (turnL L) f s := by
                  rcases HD.out with ⟨_, h⟩ | ⟨h, _⟩
                  · exact h
                  · cases h
                obtain ⟨f, hgk, hms⟩ := hst
                have HGK := Go.Lib.hid hgk
                have HMS := Go.Lib.hid hms
                have HMM := Go.Lib.hid hms.mid
                have HQ0 : Hid (QMem B w A L m gx (dn most (St.mk s.x s.m (-1)).x) wr) := HQ
                have HL0 : Hid (false = true ↔ ¬ (St.mk s.x s.m (-1)).last = -1) := Go.Lib.hid ⟨fun h => (by cases h), fun h => absurd rfl h⟩
                clear HD hgk hms HQ
                generalize St.mk s.x s.m (-1) = r0 at *
                go_wp2
                go_loopw [13, 55] (fun ch i_ wr => ∃ (j : Nat) (r : St) (b : Bool), j ≤ len ∧ i_ = .int .i64 j ∧ ch = .bool b ∧ Hid (b = true ↔ ¬ r.last = -1) ∧ Hid (MMid m (turnL L) f j s r) ∧ Hid (QMem B w A L m gx (dn most r.x) wr)) (fun _ i_ _ => len - (intOf i_).toNat)
                case atStart => exact ⟨0, r0, false, by omega, rfl, rfl, HL0, HMM, HQ0⟩
                case round =>
                  clear HQ0 HL0 HMM
                  obtain ⟨j, r, bo, hj, rfl, rfl, HLA, HMM, HQ⟩ := hrel
                  have hval := HMM.out.val (by omega) (by rw [HTL.out]; have := HM.out; omega) (by rw [HTL.out]; have := HM.out; omega)
                  by_cases hjm : j < len
                  · have hji : (j : Int) < (len : Int) := by omega
                    have hjL : j < L.length := by have := HM.out; omega
                    obtain ⟨g, o, rfl, hg, c0, c1, c2⟩ := HQ.out.arg.t3 hjL
                    have hb := HO.out j hjL
                    have hnx := HMM.out.next HLT.out (by rw [HTL.out]; exact hjL)
                    rw [HBT.out] at hnx
                    have HNX := Go.Lib.hid hnx
                    rw [← bk_at hjL] at c0 c1 c2
                    clear hnx
                    generalize bk L j = b at *
                    obtain ⟨bp, bq, br⟩ := b
                    obtain ⟨⟨hp0, hp1⟩, ⟨hq0, hq1⟩, hr0, hr1⟩ := hb
                    simp only at hp0 hp1 hq0 hq1 hr0 hr1 c0 c1 c2
                    obtain ⟨p, rfl⟩ : ∃ p : Nat, bp = (p : Int) := ⟨bp.toNat, by omega⟩
                    obtain ⟨q, rfl⟩ : ∃ q : Nat, bq = (q : Int) := ⟨bq.toNat, by omega⟩
                    have hp : p < m := by omega
                    have hq : q < m := by omega
                    have hvp := hval.bd p hp
                    have hvq := hval.bd q hq
                    have lg := World.block_lt_of_cell? _ _ c0
                    have hsq := HQ.out.size
                    have hdl : (dn most r.x).length = m := by rw [dn_len]; exact hval.xl
                    have hdp := dn_at most r.x p (by rw [hval.xl]; exact hp)
                    have hdq := dn_at most r.x q (by rw [hval.xl]; exact hq)
                    go_wp2
                    generalize hwx : World.alloc _ _ = wx
                    have hbk : wx.heap[wr.heap.size]? = some (.cells #[.int .i64 p, .int .i64 q, .int .i64 br] 54 (0, 0)) := by rw [← hwx]; exact alloc_at _ _
                    have HQ2 := Go.Lib.hid (HQ.out.alloc (Obj.cells #[.int .i64 p, .int .i64 q, .int .i64 br] 54))
                    rw [hwx] at HQ2
                    have hnx1 := Nat.ne_of_lt HQ.out.gxl.2
                    clear HQ hjL HMM hwx c0 c1 c2 lg
                    generalize wr.heap.size = bb at *
                    obtain ⟨x1, f1⟩ := HQ2.out.cellX hdl hp
                    obtain ⟨x2, f2⟩ := HQ2.out.cellX hdl hq
                    have k0 := blk_cell hbk 0
                    have k1 := blk_cell hbk 1
                    have k2 := blk_cell hbk 2
                    simp at k0 k1 k2
                    have lx := HQ2.out.gxl.2
                    have lb := blk_lt2 hbk
                    have hsh := @step_hot' j p q br r
                    have hsc := @step_cold' j p q br r
                    have hds := dn_set most r.x p (r.x.getD q 0 + br)
                    obtain ⟨zp, hzp⟩ : ∃ zp, r.x.getD p 0 = zp := ⟨_, rfl⟩
                    obtain ⟨zq, hzq⟩ : ∃ zq, r.x.getD q 0 = zq := ⟨_, rfl⟩
                    obtain ⟨xp, hxp⟩ : ∃ xp, (dn most r.x).getD p 0 = xp := ⟨_, rfl⟩
                    obtain ⟨xq, hxq⟩ : ∃ xq, (dn most r.x).getD q 0 = xq := ⟨_, rfl⟩
                    rw [hzp] at hsh hsc hvp hdp
                    rw [hzq] at hsh hsc hvq hdq hds
                    rw [hxp] at x1 hdp
                    rw [hxq] at x2 hdq
                    have HXP := Go.Lib.hid hxp
                    have HDP : zp = most - xp := by omega
                    have HDQ : zq = most - xq := by omega
                    have HEP := Go.Lib.hid HDP
                    have HEQ := Go.Lib.hid HDQ
                    have HSH := Go.Lib.hid hsh
                    have HSC := Go.Lib.hid hsc
                    have HDS := Go.Lib.hid hds
                    have hxpb : -20000000000000 ≤ xp ∧ xp ≤ 20000000000000 := by omega
                    have hxqb : -20000000000000 ≤ xq ∧ xq ≤ 20000000000000 := by omega
                    clear hzp hzq hxp hxq hsh hsc hds hdp hdq HDP HDQ
                    refine region_ext mixed (by kernel_rfl) ?_
                    repeat (go_big_quiet_step (fail))
                    refine wpQuiet_nil ?_
                    intro w3 hb3
                    have HQ3 := Go.Lib.hid (HQ2.out.on hb3)
                    have hbk3 := (hb3.block _ lb).trans hbk
                    clear x1 f1 x2 f2 k0 k1 k2 lx lb HQ2 hbk hb3
                    obtain ⟨x1, f1⟩ := HQ3.out.cellX hdl hp
                    rw [HXP.out] at x1
                    have k0 := blk_cell hbk3 0
                    simp at k0
                    have lx := HQ3.out.gxl.2
                    have lb := blk_lt2 hbk3
                    by_cases hot : xq - br < xp
                    · have hst := HSH.out (by have := HEP.out; have := HEQ.out; omega)
                      have hq4 := HQ3.out.storeX hB p (xq - br)
                      rw [show xq - br = most - (zq + br) by have := HEQ.out; omega, HDS.out] at hq4
                      rw [show most - (zq + br) = xq - br by have := HEQ.out; omega] at hq4
                      have HQ4 := Go.Lib.hid hq4
                      rw [hst] at HNX
                      have hbb : ¬ bb = gx := fun e => hnx1 e.symm
                      clear hst hq4 HQ3 hbk3
                      go_wp2
                      go_roundw
                      case rel => exact ⟨j + 1, _, true, by omega, by go_num, rfl, Go.Lib.hid ⟨fun _ => by simp only; omega, fun _ => rfl⟩, HNX, HQ4⟩
                      case measure => simp [intOf]; omega
                    · have hst := HSC.out (by have := HEP.out; have := HEQ.out; omega)
                      rw [hst] at HNX
                      clear hst
                      go_wp2
                      exact ⟨⟨j + 1, r, bo, by omega, by go_num, rfl, HLA, HNX, HQ3⟩, by simp [intOf]; omega⟩
                  · have hjm' : ¬ ((j : Int) < (len : Int)) := by omega
                    have hjL : j = (turnL L).length := by rw [HTL.out]; have := HM.out; omega
                    have HM2 : Hid (MMid m (turnL L) f (turnL L).length s r) := Go.Lib.hid (hjL ▸ HMM.out)
                    clear HMM
                    cases bo
                    · have hla : r.last = -1 := Classical.byContradiction fun h => by have := HLA.out.2 h; cases this
                      have HSX := Go.Lib.hid (HSTOP.out f s r HM2.out HMS.out hla)
                      clear hla
                      go_wp2
                      go_roundg f
                      case measure => have := HGK.out; omega
                      case rel => exact ⟨r, false, rfl, HQ, Go.Lib.hid (.inr ⟨rfl, HSX.out⟩)⟩
                    · have hla : ¬ r.last = -1 := HLA.out.1 rfl
                      obtain ⟨f', hf', hms'⟩ := HMORE.out f s r HM2.out HMS.out hla
                      have HF' := Go.Lib.hid hf'
                      have HMS' := Go.Lib.hid hms'
                      clear hla hf' hms'
                      go_wp2
                      go_roundg f
                      case measure => have := HGK.out; omega
                      case rel => exact ⟨r, true, rfl, HQ, Go.Lib.hid (.inl ⟨rfl, f', HF'.out, HMS'.out⟩)⟩
      · obtain ⟨e1, e2⟩ := v2 hok hlast
        obtain ⟨hs1, hs2⟩ := (solve_vals h0).2 hlast
        rw [hs1, hs2] at hsv
        have HS := Go.Lib.hid fun w h1 h2 => hsv w h1 h2 hl
        rw [e1, e2]
        clear v1 v2 v3 hok hsv hs1 hs2
        go_enter Try.func43, Try.ntmps43
        go_wp2_with fail
        refine (HC.out _ hA hB).mono ?_
        rintro e w1 ⟨rfl, hb1⟩
        have hs1 := hb1.size
        go_wp2_with fail
        refine (HS.out _ (hA.below (hb1.mono hB)) (by omega)).mono ?_
        rintro e w2 ⟨A2, c2, rfl, _, hb2⟩
        go_wp2
        go_ret2
        exact IntsE.none (hb1.trans (hb2.mono hs1))
  · have hne : (chkN n L != 0) = true := by simpa using h0
    have e1 : topE n L most = chkN n L := by simp [topE, h0]
    rw [e1, topR_nil (by rw [e1]; exact h0)]
    go_enter Try.func43, Try.ntmps43
    go_wp2_with fail
    refine (checkN_any B A c n L _ hA hB hl).mono ?_
    rintro e w1 ⟨rfl, hb1⟩
    go_wp2
    go_ret2
    exact IntsE.none hb1
end Go.Proofs.Ythannibclhidcaa
