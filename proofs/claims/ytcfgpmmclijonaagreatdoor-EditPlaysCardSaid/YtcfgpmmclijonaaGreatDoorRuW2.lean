/- Layer 3: words: both sides. -/
import Derived.Test.YtcfgpmmclijonaaGreatDoorRuW
namespace Go.Proofs.YtcfgpmmclijonaaGreatDoor
set_option linter.unusedVariables false
set_option linter.unusedSimpArgs false
set_option maxRecDepth 100000
open Go.RowKit Go.Shelf Go.Lib

theorem wend_lt {kf : Int → Nat} {P : List (Nat × Nat)} : ∀ (f i : Nat), i < P.length → wend kf P f i < P.length
  | 0, i, h => h
  | f + 1, i, h => by
    rw [wend]
    split
    · split
      · exact wend_lt f (i + 1) (by omega)
      · exact h
    · exact h
set_option maxHeartbeats 4000000
set_option maxRecDepth 100000
theorem Word_any (s : ByteArray) (a : Int) (w : World) (hT : Tabs w) (hs : s.size ≤ 4000000) :
    Calls Tryz.prog 54 #[.string s, .int .i64 a] w fun e w' => e = .returned (ansV (wordE kd (pcs s.data.toList) a)) ∧ Below w.heap.size w w' := by
  have hlen := pcs_len s.data.toList
  have hl2 : s.data.toList.length = s.size := by simp
  have hrn := pcs_rune s.data.toList
  have CP := fun x => small (pieces_any s x (by omega)) hs
  generalize pcs s.data.toList = P at *
  have hPL : P.length ≤ 1000000000000000000 := by omega
  have hPI : (P.length : Int) ≤ 4000000 := by omega
  have CH := fun (B : Nat) A c x h1 h2 => holding_any B P A c a x h1 h2 hPL
  unfold hixI at CH
  have HT := hid hT
  clear hlen hl2 hPL hT
  cases hh : hix P a with
  | none =>
    have he : wordE kd P a = (0, false) := by unfold wordE; rw [hh]
    rw [he]
    simp only [hh] at CH
    clear hh he
    go_enter Tryz.func54, Tryz.ntmps54
    go_wp2_with fail
    refine (CP _).mono ?_
    rintro e w1 ⟨A, c, rfl, hown, hb1⟩
    have hC := CH w1.heap.size A c w1 (At.of_own hown) (Nat.le_refl _)
    clear hown
    go_wp2_with fail
    refine hC.mono ?_
    rintro e w2 ⟨rfl, hb2⟩
    go_wp2
    refine bodyPost_ret (v := .tuple #[.int .i64 0, .bool false]) (by simp [results, Tryz.results54, go_sem]) rfl ?_
    exact ⟨rfl, hb1.trans (hb2.mono hb1.size)⟩
  | some q =>
    have hq := hix_lt hh
    have he : wordE kd P a = (off P (wend kd P P.length q + 1), true) := by unfold wordE; rw [hh]
    rw [he]
    simp only [hh] at CH
    clear hh he
    have hii : (q : Int) < (P.length : Int) := by omega
    obtain ⟨Y, hY⟩ : ∃ Y, off P (wend kd P P.length q + 1) = Y := ⟨_, rfl⟩
    have HY := hid hY
    have HRN := hid hrn
    rw [hY]
    clear hY hrn
    go_enter Tryz.func54, Tryz.ntmps54
    go_wp2_with fail
    refine (CP _).mono ?_
    rintro e w1 ⟨A, c, rfl, hown, hb1⟩
    have hC := CH w1.heap.size A c w1 (At.of_own hown) (Nat.le_refl _)
    have HA := hid (At.of_own hown)
    clear hown
    go_wp2_with fail
    refine hC.mono ?_
    rintro e w2 ⟨rfl, hb2⟩
    have HB2 := hid hb2
    have hs1 := hb1.size
    have HTW := hid (tabs_on HT.out hb1)
    clear hC CH CP hb2
    go_wp2
    go_loopg [7] P.length (fun gh v wr => ∃ j f : Nat, v = .int .i64 j ∧ j < P.length ∧ P.length - j ≤ gh ∧ P.length ≤ f + j ∧ Hid (wend kd P P.length q = wend kd P f j) ∧ Hid (Below w1.heap.size w1 wr))
    case atStart => exact ⟨q, P.length, rfl, hq, by omega, by omega, hid rfl, HB2⟩
    case round =>
      obtain ⟨j, f, rfl, hj, hgh, hf, HN, HB⟩ := hrel
      have hji : (j : Int) < (P.length : Int) := by omega
      obtain ⟨g, o, rfl, hg, c0, c1, c2⟩ := (HA.out.below HB.out).pr hj
      have hsr := HB.out.size
      have y0 : g < wr.heap.size := by omega
      have hTr := tabs_on HTW.out HB.out
      have hr1 := HRN.out _ (List.getElem_mem hj)
      by_cases hlt : j + 1 < P.length
      · have hlt' : (j : Int) + 1 < (P.length : Int) := by omega
        obtain ⟨g', o', hA', hg', d0, d1, d2⟩ := (HA.out.below HB.out).pr hlt
        obtain ⟨rfl, rfl⟩ : g = g' ∧ o = o' := by
          injection hA' with e
          injection e with e1 e2
          exact ⟨e1, e2⟩
        have hr2 := HRN.out _ (List.getElem_mem hlt)
        have HST := hid (fun (h : kd (P[j + 1].2 : Int) = kd (P[j].2 : Int)) (f' : Nat) => wend_step kd (P := P) (f := f') hlt h)
        have HSP := hid (fun (h : ¬ (kd (P[j + 1].2 : Int) = kd (P[j].2 : Int))) => wend_stop kd (P := P) (f := f) hlt h)
        obtain ⟨r1, e1⟩ : ∃ r, P[j].2 = r := ⟨_, rfl⟩
        obtain ⟨r2, e2⟩ : ∃ r, P[j + 1].2 = r := ⟨_, rfl⟩
        obtain ⟨x0, f0⟩ : ∃ x, off P j = x := ⟨_, rfl⟩
        obtain ⟨x1, f1⟩ : ∃ x, off P (j + 1) = x := ⟨_, rfl⟩
        obtain ⟨x2, f2⟩ : ∃ x, off P (j + 1 + 1) = x := ⟨_, rfl⟩
        rw [e1] at hr1 c2 HST HSP
        rw [e2] at hr2 d2 HST HSP
        rw [f0] at c0
        rw [f1] at c1 d0
        rw [f2] at d1
        have HX1 := hid f1
        clear e1 e2 f0 f1 f2 hA' hg'
        have C1 := fun (x : Ext wr) => kind_any x0 x1 r1 (by omega) (by omega) (ext x) (tabs_on hTr x.2)
        have C2 := fun (x : Ext wr) => kind_any x1 x2 r2 (by omega) (by omega) (ext x) (tabs_on hTr x.2)
        clear hTr
        generalize kd (r1 : Int) = k1 at *
        generalize kd (r2 : Int) = k2 at *
        by_cases hk : k2 = k1
        · subst hk
          obtain ⟨f', rfl⟩ : ∃ f', f = f' + 1 := ⟨f - 1, by omega⟩
          have HN2 := hid (HN.out.trans (HST.out rfl f'))
          go_wp2
          refine region_ext mixed (by kernel_rfl) ?_
          repeat (go_big_quiet_step (first | (go_at_call 69; with_reducible exact in_ext (C1 _)) | (go_at_call 69; with_reducible exact in_ext (C2 _))))
          refine wpQuiet_nil ?_
          intro w5 hb5
          go_wp2
          go_roundg (P.length - (j + 1))
          case measure => omega
          case rel => exact ⟨j + 1, f', by go_num, by omega, by omega, by omega, HN2, hid (HB.out.trans (hb5.mono hsr))⟩
        · have hki : ¬ ((k2 : Int) = (k1 : Int)) := by omega
          have hYx : Y = x1 := by rw [← HY.out, HN.out, HSP.out hk, HX1.out]
          have HYX := hid hYx
          clear hYx hk
          go_wp2
          refine region_ext mixed (by kernel_rfl) ?_
          repeat (go_big_quiet_step (first | (go_at_call 69; with_reducible exact in_ext (C1 _)) | (go_at_call 69; with_reducible exact in_ext (C2 _))))
          refine wpQuiet_nil ?_
          intro w5 hb5
          have e1 : w5.cell? ⟨g, o + j * 3 + 1, none⟩ = some (.int .i64 (x1 : Int)) := by rw [(bcell hb5).1 _ _ y0]; exact c1
          go_wp2
          refine bodyPost_ret (v := .tuple #[.int .i64 (x1 : Int), .bool true]) (by simp [results, Tryz.results54, go_sem]) rfl ?_
          exact ⟨by rw [HYX.out]; rfl, hb1.trans ((HB.out.trans (hb5.mono hsr)).mono hs1)⟩
      · have hlt' : ¬ ((j : Int) + 1 < (P.length : Int)) := by omega
        have hdf : decide ((j : Int) + 1 < (P.length : Int)) = false := decide_eq_false hlt'
        obtain ⟨x1, f1⟩ : ∃ x, off P (j + 1) = x := ⟨_, rfl⟩
        have hYx : Y = x1 := by rw [← HY.out, HN.out, wend_end kd hlt, f1]
        rw [f1] at c1
        have HYX := hid hYx
        clear hYx f1 c0 c2 hTr hr1
        go_wp2
        refine region_ext mixed (by kernel_rfl) ?_
        repeat (go_big_quiet_step (fail))
        refine wpQuiet_nil ?_
        intro w5 hb5
        have e1 : w5.cell? ⟨g, o + j * 3 + 1, none⟩ = some (.int .i64 (x1 : Int)) := by rw [(bcell hb5).1 _ _ y0]; exact c1
        go_wp2
        refine bodyPost_ret (v := .tuple #[.int .i64 (x1 : Int), .bool true]) (by simp [results, Tryz.results54, go_sem]) rfl ?_
        exact ⟨by rw [HYX.out]; rfl, hb1.trans ((HB.out.trans (hb5.mono hsr)).mono hs1)⟩
theorem rWord_any (s : ByteArray) (a : Int) (w : World) (hT : Tabs w) (hs : s.size ≤ 4000000) :
    Calls Tryz.prog 59 #[.string s, .int .i64 a] w fun e w' => e = .returned (ansV (wordE kd (pcs s.data.toList) a)) ∧ Below w.heap.size w w' := by
  have hlen := pcs_len s.data.toList
  have hl2 : s.data.toList.length = s.size := by simp
  have hrn := pcs_rune s.data.toList
  have CP := fun x => small (rpieces_any s x (by omega)) hs
  generalize pcs s.data.toList = P at *
  have hPI : (P.length : Int) ≤ 4000000 := by omega
  have HS := hid (fun (i : Nat) (hi : i < P.length) (h : InP P a i = true) => show wordE kd P a = (off P (wend kd P P.length i + 1), true) by unfold wordE; rw [hix_some hi h])
  have HZ := hid (fun (h : ∀ i, i < P.length → InP P a i = false) => show wordE kd P a = (0, false) by unfold wordE; rw [hix_none h])
  have HRN := hid hrn
  have HT := hid hT
  generalize wordE kd P a = Z at *
  clear hlen hl2 hT hrn
  go_enter Tryz.func59, Tryz.ntmps59
  go_wp2_with fail
  refine (CP _).mono ?_
  rintro e w1 ⟨A, c, rfl, hown, hb1⟩
  have HA := hid (At.of_own hown)
  have hs1 := hb1.size
  have HTW := hid (tabs_on HT.out hb1)
  clear hown CP
  go_wp2
  go_loopg [7] P.length (fun gh i wr => ∃ k : Nat, i = .int .i64 k ∧ k ≤ P.length ∧ P.length - k ≤ gh ∧ Hid (∀ j, j < k → InP P a j = false) ∧ Hid (Below w1.heap.size w1 wr))
  case atStart => exact ⟨0, rfl, by omega, by omega, hid (fun j hj => by omega), hid (Below.refl _ _)⟩
  case round =>
    obtain ⟨q, rfl, hk, hgh, HN, HB⟩ := hrel
    have hsr := HB.out.size
    by_cases hlt : q < P.length
    · have hli : (q : Int) < (P.length : Int) := by omega
      obtain ⟨g, o, rfl, hg, c0, c1, c2, c3⟩ := (HA.out.below HB.out).qr hlt
      have HX := hid (fun (h1 : (off P q : Int) ≤ a) (h2 : a < (off P (q + 1) : Int)) => HS.out q hlt (inP_iff.2 ⟨h1, h2⟩))
      have HY := hid (fun (h : ¬ ((off P q : Int) ≤ a ∧ a < (off P (q + 1) : Int))) (j : Nat) (hj : j < q + 1) => show InP P a j = false by
        by_cases e : j = q
        · subst e
          exact inP_no h
        · exact HN.out j (by omega))
      obtain ⟨x, hx⟩ : ∃ x, off P q = x := ⟨_, rfl⟩
      obtain ⟨y, hy⟩ : ∃ y, off P (q + 1) = y := ⟨_, rfl⟩
      rw [hx] at c0 HX HY
      rw [hy] at c1 HX HY
      by_cases h1 : (x : Int) ≤ a
      · by_cases h2 : a < (y : Int)
        · have hz := HX.out h1 h2
          have HZZ := hid hz
          have HQX := hid hx
          have HQY := hid hy
          clear hz hx hy HX HY HZ HS HN c2 c3
          go_wp2
          go_loopg [8] P.length (fun gh v wr => ∃ j f : Nat, v = .int .i64 j ∧ j < P.length ∧ P.length - j ≤ gh ∧ P.length ≤ f + j ∧ Hid (wend kd P P.length q = wend kd P f j) ∧ Hid (∀ h : j < P.length, kd (P[j].2 : Int) = kd (P[q].2 : Int)) ∧ Hid (Below w1.heap.size w1 wr))
          case atStart => exact ⟨q, P.length, rfl, hlt, by omega, by omega, hid rfl, hid (fun _ => rfl), HB⟩
          case round =>
            obtain ⟨j, f, rfl, hj, hgh, hf, HN, HK, HB⟩ := hrel
            have hji : (j : Int) < (P.length : Int) := by omega
            obtain ⟨g', o', hA', hg', c0, c1, c2, c3⟩ := (HA.out.below HB.out).qr hlt
            obtain ⟨rfl, rfl⟩ : g = g' ∧ o = o' := by
              injection hA' with e
              injection e with e1 e2
              exact ⟨e1, e2⟩
            clear hA' hg'
            obtain ⟨g', o', hA', hg', b0, b1, b2, b3⟩ := (HA.out.below HB.out).qr hj
            obtain ⟨rfl, rfl⟩ : g = g' ∧ o = o' := by
              injection hA' with e
              injection e with e1 e2
              exact ⟨e1, e2⟩
            clear hA' hg'
            have hsr := HB.out.size
            have y0 : g < wr.heap.size := by omega
            have hTr := tabs_on HTW.out HB.out
            have hr1 := HRN.out _ (List.getElem_mem hlt)
            rw [HQX.out] at c0
            rw [HQY.out] at c1
            by_cases hlt2 : j + 1 < P.length
            · have hlt' : (j : Int) + 1 < (P.length : Int) := by omega
              obtain ⟨g', o', hA', hg', d0, d1, d2, d3⟩ := (HA.out.below HB.out).qr hlt2
              obtain ⟨rfl, rfl⟩ : g = g' ∧ o = o' := by
                injection hA' with e
                injection e with e1 e2
                exact ⟨e1, e2⟩
              have hr2 := HRN.out _ (List.getElem_mem hlt2)
              have HST := hid (fun (h : kd (P[j + 1].2 : Int) = kd (P[q].2 : Int)) (f' : Nat) => wend_step kd (P := P) (f := f') hlt2 (h.trans (HK.out hj).symm))
              have HSP := hid (fun (h : ¬ (kd (P[j + 1].2 : Int) = kd (P[q].2 : Int))) => wend_stop kd (P := P) (f := f) hlt2 (fun e => h (e.trans (HK.out hj))))
              have HKN := hid (fun (h : kd (P[j + 1].2 : Int) = kd (P[q].2 : Int)) (_ : j + 1 < P.length) => h)
              obtain ⟨r1, e1⟩ : ∃ r, P[q].2 = r := ⟨_, rfl⟩
              obtain ⟨r2, e2⟩ : ∃ r, P[j + 1].2 = r := ⟨_, rfl⟩
              obtain ⟨u1, f1⟩ : ∃ x, off P (j + 1) = x := ⟨_, rfl⟩
              obtain ⟨u2, f2⟩ : ∃ x, off P (j + 1 + 1) = x := ⟨_, rfl⟩
              rw [e1] at hr1 c2 c3 HST HSP HKN HK
              rw [e2] at hr2 d2 d3 HST HSP HKN
              rw [f1] at b1 d0
              rw [f2] at d1
              have HX1 := hid f1
              have HE2 := hid e2
              have HE1 := hid e1
              clear e1 e2 f1 f2 hA' hg' b0 b2 b3
              obtain ⟨m1, hm1⟩ : ∃ x, wid (r1 : Int) = x := ⟨_, rfl⟩
              obtain ⟨m2, hm2⟩ : ∃ x, wid (r2 : Int) = x := ⟨_, rfl⟩
              rw [hm1] at c3
              rw [hm2] at d3
              clear hm1 hm2
              have C1 := fun (z : Ext wr) => rkind_any x y r1 m1 (by omega) (by omega) (ext z) (tabs_on hTr z.2)
              have C2 := fun (z : Ext wr) => rkind_any u1 u2 r2 m2 (by omega) (by omega) (ext z) (tabs_on hTr z.2)
              clear hTr
              obtain ⟨k1, hk1⟩ : ∃ k, kd (r1 : Int) = k := ⟨_, rfl⟩
              obtain ⟨k2, hk2⟩ : ∃ k, kd (r2 : Int) = k := ⟨_, rfl⟩
              rw [hk1] at C1 HST HSP HKN HK
              rw [hk2] at C2 HST HSP HKN
              have HK2 := hid hk2
              have HK1 := hid hk1
              clear hk1 hk2
              by_cases hk : k2 = k1
              · subst hk
                obtain ⟨f', rfl⟩ : ∃ f', f = f' + 1 := ⟨f - 1, by omega⟩
                have HN2 := hid (HN.out.trans (HST.out rfl f'))
                have HK3 : Hid (∀ h : j + 1 < P.length, kd (P[j + 1].2 : Int) = kd (P[q].2 : Int)) := hid fun h => by
                  rw [HE2.out, HE1.out, HK2.out, HK1.out]
                go_wp2
                refine region_ext mixed (by kernel_rfl) ?_
                repeat (go_big_quiet_step (first | (go_at_call 77; with_reducible exact in_ext (C1 _)) | (go_at_call 77; with_reducible exact in_ext (C2 _))))
                refine wpQuiet_nil ?_
                intro w5 hb5
                go_wp2
                go_roundg (P.length - (j + 1))
                case measure => omega
                case rel => exact ⟨j + 1, f', by go_num, by omega, by omega, by omega, HN2, HK3, hid (HB.out.trans (hb5.mono hsr))⟩
              · have hki : ¬ (((k2 + 1 : Nat) : Int) = ((k1 + 1 : Nat) : Int)) := by omega
                have hki2 : ¬ ((k2 : Int) + 1 = (k1 : Int) + 1) := by omega
                have hki3 : ¬ ((k2 : Int) = (k1 : Int)) := by omega
                have hYx : Z = (u1, true) := by rw [HZZ.out, HN.out, HSP.out hk, HX1.out]
                have HYX := hid hYx
                clear hYx hk
                go_wp2
                refine region_ext mixed (by kernel_rfl) ?_
                repeat (go_big_quiet_step (first | (go_at_call 77; with_reducible exact in_ext (C1 _)) | (go_at_call 77; with_reducible exact in_ext (C2 _))))
                refine wpQuiet_nil ?_
                intro w5 hb5
                have e1 : w5.cell? ⟨g, o + j * 4 + 1, none⟩ = some (.int .i64 (u1 : Int)) := by rw [(bcell hb5).1 _ _ y0]; exact b1
                go_wp2
                refine bodyPost_ret (v := .tuple #[.int .i64 (u1 : Int), .bool true]) (by simp [results, Tryz.results59, go_sem]) rfl ?_
                exact ⟨by rw [HYX.out]; rfl, hb1.trans ((HB.out.trans (hb5.mono hsr)).mono hs1)⟩
            · have hlt' : ¬ ((j : Int) + 1 < (P.length : Int)) := by omega
              have hdf : decide ((j : Int) + 1 < (P.length : Int)) = false := decide_eq_false hlt'
              obtain ⟨u1, f1⟩ : ∃ x, off P (j + 1) = x := ⟨_, rfl⟩
              have hYx : Z = (u1, true) := by rw [HZZ.out, HN.out, wend_end kd hlt2, f1]
              rw [f1] at b1
              have HYX := hid hYx
              clear hYx f1 c0 c1 c2 c3 b0 b2 b3 hTr hr1
              go_wp2
              refine region_ext mixed (by kernel_rfl) ?_
              repeat (go_big_quiet_step (fail))
              refine wpQuiet_nil ?_
              intro w5 hb5
              have e1 : w5.cell? ⟨g, o + j * 4 + 1, none⟩ = some (.int .i64 (u1 : Int)) := by rw [(bcell hb5).1 _ _ y0]; exact b1
              go_wp2
              refine bodyPost_ret (v := .tuple #[.int .i64 (u1 : Int), .bool true]) (by simp [results, Tryz.results59, go_sem]) rfl ?_
              exact ⟨by rw [HYX.out]; rfl, hb1.trans ((HB.out.trans (hb5.mono hsr)).mono hs1)⟩
        · have HN2 := hid (HY.out (fun h => h2 h.2))
          clear hx hy HX HY
          go_wp2
          go_roundg (P.length - (q + 1))
          case measure => omega
          case rel => exact ⟨q + 1, by go_num, by omega, by omega, HN2, HB⟩
      · have HN2 := hid (HY.out (fun h => h1 h.1))
        clear hx hy HX HY
        go_wp2
        go_roundg (P.length - (q + 1))
        case measure => omega
        case rel => exact ⟨q + 1, by go_num, by omega, by omega, HN2, HB⟩
    · have hli : ¬ ((q : Int) < (P.length : Int)) := by omega
      have hz := HZ.out (fun i hi => HN.out i (by omega))
      have HZZ := hid hz
      clear hz
      go_wp2
      refine bodyPost_ret (v := .tuple #[.int .i64 0, .bool false]) (by simp [results, Tryz.results59, go_sem]) rfl ?_
      exact ⟨by rw [HZZ.out]; rfl, hb1.trans (HB.out.mono hs1)⟩
end Go.Proofs.YtcfgpmmclijonaaGreatDoor
