/- Layer 21: the walk of KeysPieces. -/
import Derived.Test.YtddigbhijfpmkaaDoorKePp
import Derived.Test.YtddigbhijfpmkaaDoorKeLawD
namespace Go.Proofs.YtddigbhijfpmkaaDoor
set_option linter.unusedVariables false
set_option linter.unusedSimpArgs false
set_option maxRecDepth 100000
open Go.RowKit Go.Shelf Go.Lib
set_option maxRecDepth 100000
set_option maxHeartbeats 8000000

theorem Bytes_small {l : By} (h : ¬ 65536 < l.length) : BytesL l = ((bytesL l).1, (bytesL l).2, 0) := by unfold BytesL; rw [if_neg h]
theorem walkKeysPieces (w : World) (hT : Tabs w) (s : ByteArray) (cut : Int) :
    Calls Tryd.prog 5 #[.string s, .int .i64 cut] w fun e w' => e = .returned (.bool true) ∧ Below w.heap.size w w' := by
  have CA := awake_any w hT
  have CT := fun nm md w1 (hb : Below w.heap.size w w1) => Text_any nm md w1 (tabs_on hT hb)
  have CB := fun s w1 (hb : Below w.heap.size w w1) => Bytes_any s w1 (tabs_on hT hb)
  have HCT := hid CT
  have HCB := hid CB
  clear CT CB hT
  by_cases hbig : 65536 < s.size
  · have b1 : decide ((65536 : Int) < (s.size : Int)) = true := decide_eq_true (by omega)
    have b2 : (65536 : Int) < (s.size : Int) := by omega
    have hz : BytesL s.data.toList = ([], 0, 3) := by unfold BytesL; rw [ba_len, if_pos hbig]
    go_enter Tryd.func5, Tryd.ntmps5
    go_wp2_with fail
    with_reducible refine CA.mono ?_
    rintro e w1 ⟨rfl, hb1⟩
    have C := HCB.out s w1 hb1
    rw [hz] at C
    unfold ChordP at C
    simp only [List.length_nil] at C
    clear CA hz
    go_wp2_with fail
    with_reducible refine C.mono ?_
    rintro e w2 ⟨A2, c2, rfl, _, hb2⟩
    go_wp2
    go_ret
    exact ⟨rfl, hb1.trans (hb2.mono hb1.size)⟩
  have b1 : decide ((65536 : Int) < (s.size : Int)) = false := decide_eq_false (by omega)
  have b2 : ¬ (65536 : Int) < (s.size : Int) := by omega
  have hz := Bytes_small (l := s.data.toList) (by rw [ba_len]; exact hbig)
  have hwt := bytes_wait_le _ s.data.toList rfl
  have hall := bytes_may _ s.data.toList rfl
  have hln := bytes_len _ s.data.toList rfl
  rw [ba_len] at hwt hln
  by_cases hcut : cut < 0 ∨ (s.size : Int) < cut
  · obtain ⟨⟨l, wt⟩, hl⟩ : ∃ y, bytesL s.data.toList = y := ⟨_, rfl⟩
    rw [hl] at hz hwt
    simp only at hz hwt
    have t1 : decide ((wt : Int) < 0) = false := decide_eq_false (by omega)
    have t2 : decide ((s.size : Int) < (wt : Int)) = false := decide_eq_false (by omega)
    have t3 : ¬ s.size < wt := by omega
    have t4 : decide (s.size < wt) = false := decide_eq_false t3
    have hc : (decide (cut < 0) = true) ∨ (decide (cut < 0) = false ∧ decide ((s.size : Int) < cut) = true) := by
      by_cases h : cut < 0
      · exact .inl (decide_eq_true h)
      · exact .inr ⟨decide_eq_false h, decide_eq_true (by omega)⟩
    clear hall hl hcut
    rcases hc with q1 | ⟨q1, q2⟩
    all_goals
      go_enter Tryd.func5, Tryd.ntmps5
      go_wp2_with fail
      with_reducible refine CA.mono ?_
      rintro e w1 ⟨rfl, hb1⟩
      have C := HCB.out s w1 hb1
      rw [hz] at C
      unfold ChordP at C
      simp only at C
      clear CA hz
      go_wp2_with fail
      with_reducible refine C.mono ?_
      rintro e w2 ⟨A2, c2, rfl, _, hb2⟩
      go_wp2
      go_ret
      exact ⟨rfl, hb1.trans (hb2.mono hb1.size)⟩
  obtain ⟨m, rfl⟩ := Int.eq_ofNat_of_zero_le (show 0 ≤ cut by omega)
  have hms : m ≤ s.size := by omega
  have m1 : decide ((m : Int) < 0) = false := decide_eq_false (by omega)
  have m2 : decide ((s.size : Int) < (m : Int)) = false := decide_eq_false (by omega)
  have m3 : ¬ s.size < m := by omega
  have m4 : decide (s.size < m) = false := decide_eq_false m3
  have m5 : (m : Int) ≤ (s.size : Int) := by omega
  obtain ⟨hpw, hpe⟩ := pieces (l := s.data.toList) (m := m) (by rw [ba_len]; exact hms)
  have hza := Bytes_small (l := s.data.toList.take m) (by rw [List.length_take, ba_len]; omega)
  obtain ⟨⟨La, wa⟩, hla⟩ : ∃ y, bytesL (s.data.toList.take m) = y := ⟨_, rfl⟩
  rw [hla] at hpw hpe hza
  simp only at hpw hpe hza
  have hzb := Bytes_small (l := s.data.toList.drop (m - wa)) (by rw [List.length_drop, ba_len]; omega)
  obtain ⟨⟨Lb, wt⟩, hlb⟩ : ∃ y, bytesL (s.data.toList.drop (m - wa)) = y := ⟨_, rfl⟩
  rw [hlb] at hpe hzb
  simp only at hpe hzb
  rw [hpe] at hz hwt hall hln
  simp only at hz hwt hall hln
  obtain ⟨d, hd⟩ : ∃ d, m - wa = d := ⟨_, rfl⟩
  rw [hd] at hzb
  have hdi : (m : Int) - (wa : Int) = (d : Int) := by omega
  have d1 : (d : Int) ≤ (s.size : Int) := by omega
  have d2 : d ≤ s.size := by omega
  have t1 : decide ((wt : Int) < 0) = false := decide_eq_false (by omega)
  have t2 : decide ((s.size : Int) < (wt : Int)) = false := decide_eq_false (by omega)
  have t3 : ¬ s.size < wt := by omega
  have t4 : decide (s.size < wt) = false := decide_eq_false t3
  have t5 : decide ((wa : Int) < 0) = false := decide_eq_false (by omega)
  have t6 : decide ((m : Int) < (wa : Int)) = false := decide_eq_false (by omega)
  have t7 : ¬ m < wa := by omega
  have t8 : decide (m < wa) = false := decide_eq_false t7
  have hsa : (s.extract 0 m).data.toList = s.data.toList.take m := by rw [ba_take]
  have hsb : (s.extract d s.size).data.toList = s.data.toList.drop d := by rw [ba_drop]
  have HALL := hid hall
  have HSA := hid (hsa ▸ hza : BytesL (s.extract 0 m).data.toList = (La, wa, 0))
  have HSB := hid (hsb ▸ hzb : BytesL (s.extract d s.size).data.toList = (Lb, wt, 0))
  have HZ := hid hz
  rw [List.length_append] at hln
  obtain ⟨na, hna⟩ : ∃ y, La.length = y := ⟨_, rfl⟩
  obtain ⟨nb, hnb⟩ : ∃ y, Lb.length = y := ⟨_, rfl⟩
  rw [hna, hnb] at hln
  have HNA := hid hna
  have HNB := hid hnb
  clear hall hz hza hzb hsa hsb hpe hla hlb hd hna hnb hpw
  go_enter Tryd.func5, Tryd.ntmps5
  go_wp2_with fail
  with_reducible refine CA.mono ?_
  rintro e w1 ⟨rfl, hb1⟩
  have C := HCB.out s w1 hb1
  rw [HZ.out] at C
  unfold ChordP at C
  simp only [List.length_append] at C
  rw [HNA.out, HNB.out] at C
  clear CA
  go_wp2_with fail
  with_reducible refine C.mono ?_
  rintro e w2 ⟨A2, c2, rfl, hown2, hb2⟩
  have hs2 := hb2.size
  have hB2 := hb1.trans (hb2.mono hb1.size)
  have C2 := HCB.out (s.extract 0 m) w2 hB2
  rw [HSA.out] at C2
  unfold ChordP at C2
  simp only at C2
  rw [HNA.out] at C2
  clear C hb1 hb2
  go_wp2_with fail
  with_reducible refine C2.mono ?_
  rintro e w3 ⟨A3, c3, rfl, hown3, hb3⟩
  have hs3 := hb3.size
  have hB3 := hB2.trans (hb3.mono hB2.size)
  have hown2' := own_below' hown2 hb3
  have C3 := HCB.out (s.extract d s.size) w3 hB3
  rw [HSB.out] at C3
  unfold ChordP at C3
  simp only at C3
  rw [HNB.out] at C3
  clear C2 hb3 hown2
  go_wp2_with fail
  with_reducible refine C3.mono ?_
  rintro e w4 ⟨A4, c4, rfl, hown4, hb4⟩
  have hs4 := hb4.size
  have hB4 := hB3.trans (hb4.mono hB3.size)
  have HA2 := hid (At.of_own (own_below' hown2' hb4))
  have HA3 := hid (At.of_own (own_below' hown3 hb4))
  have HA4 := hid (At.of_own hown4)
  clear C3 hb4 hown2' hown3 hown4
  have n1 : (na : Int) + (nb : Int) = ((na + nb : Nat) : Int) := by omega
  obtain ⟨n, hn⟩ : ∃ n, na + nb = n := ⟨_, rfl⟩
  have n2 : (na : Int) + (nb : Int) = (n : Int) := by omega
  have hn16 : n ≤ 100000 := by omega
  rw [hn]
  have HN := hid hn
  clear n1 hn
  go_wp2
  go_loopw [13] (fun v wr => ∃ i : Nat, v = .int .i64 i ∧ i ≤ n ∧ Below w4.heap.size w4 wr) (fun v _ => n - (RowKit.intOf v).toNat)
  case atStart => exact ⟨0, rfl, by omega, Below.refl _ _⟩
  case round =>
    obtain ⟨i, rfl, hi, hbr⟩ := hrel
    have hsr := hbr.size
    have hBr := hB4.trans (hbr.mono hB4.size)
    by_cases hin : i < n
    · have i1 : (i : Int) < (n : Int) := by omega
      have i2 : decide ((i : Int) < (n : Int)) = true := decide_eq_true i1
      have hna := HNA.out
      have hnb := HNB.out
      have hnn := HN.out
      have hil : i < (La ++ Lb).length := by rw [List.length_append, hna, hnb]; omega
      have hmay := HALL.out (La ++ Lb)[i] (List.getElem_mem hil)
      obtain ⟨g, o, rfl, hg, x0, x1⟩ := (HA2.out.below hbr).ky hil
      have hcase : (∃ ha : i < La.length, La[i] = (La ++ Lb)[i]) ∨ (∃ hb : i - na < Lb.length, ¬ i < na ∧ Lb[i - na] = (La ++ Lb)[i]) := by
        by_cases h : i < na
        · exact .inl ⟨by omega, by rw [List.getElem_append_left]⟩
        · refine .inr ⟨by omega, h, ?_⟩
          rw [List.getElem_append_right (by omega)]
          congr 1
          omega
      generalize hk : (La ++ Lb)[i] = k at *
      clear hk
      obtain ⟨nm, md⟩ := k
      simp only at x0 x1
      obtain ⟨nbs, hnbs⟩ : ∃ y, (⟨nm.toArray⟩ : ByteArray) = y := ⟨_, rfl⟩
      have C := HCT.out nbs md wr hBr
      rw [show (⟨nbs.data.toList, md⟩ : Ky) = ⟨nm, md⟩ by rw [← hnbs], textT_yes hmay] at C
      rw [hnbs] at x0
      have hkq := keyEq_refl nbs (md : Int)
      obtain ⟨tb, htb⟩ : ∃ y, (⟨(textL ⟨nm, md⟩).toArray⟩ : ByteArray) = y := ⟨_, rfl⟩
      rw [htb] at C
      have HK := hid hnbs
      have HC := hid hcase
      clear htb hmay hnbs hil hcase hna hnb hnn
      go_wp2_with fail
      with_reducible refine C.mono ?_
      rintro e w5 ⟨rfl, hb5⟩
      have hbr5 := hbr.trans (hb5.mono hsr)
      have hs5 := hbr5.size
      have hBr5 := hB4.trans (hbr5.mono hB4.size)
      have z0 : w5.cell? ⟨g, o + i * 2, none⟩ = some (.string nbs) := by rw [hb5.cell (World.block_lt_of_cell? _ _ x0)]; exact x0
      have z1 : w5.cell? ⟨g, o + i * 2 + 1, none⟩ = some (.int .u8 (md : Int)) := by rw [hb5.cell (World.block_lt_of_cell? _ _ x1)]; exact x1
      have lg : g < w5.heap.size := by omega
      clear C x0 x1 hb5
      rcases HC.out with ⟨ha, hk⟩ | ⟨hb, hnl, hk⟩
      · obtain ⟨g3, o3, rfl, hg3, y0, y1⟩ := (HA3.out.below hbr5).ky ha
        rw [hk] at y0 y1
        simp only at y0 y1
        rw [HK.out] at y0
        rw [HNA.out] at ha
        have lg3 : g3 < w5.heap.size := by omega
        have j1 : (i : Int) < (na : Int) := by omega
        have j2 : decide ((i : Int) < (na : Int)) = true := decide_eq_true j1
        have j3 : decide (i < na) = true := decide_eq_true ha
        have j4 : decide ((na : Int) ≤ (i : Int)) = false := decide_eq_false (by omega)
        have j5 : decide (na ≤ i) = false := decide_eq_false (by omega)
        have j6 : ¬ na ≤ i := by omega
        clear hk
        go_wp2
        refine region_ext mixed (by kernel_rfl) ?_
        (repeat (go_big_quiet_step (fail)))
        refine wpQuiet_nil ?_
        intro w6 hb6
        go_wp2
        go_roundw
        case rel => exact ⟨i + 1, by go_num, by omega, hbr5.trans (hb6.mono hs5)⟩
        case measure => simp [RowKit.intOf]; omega
      · obtain ⟨g4, o4, rfl, hg4, y0, y1⟩ := (HA4.out.below hbr5).ky hb
        rw [hk] at y0 y1
        simp only at y0 y1
        rw [HK.out] at y0
        rw [HNB.out] at hb
        have lg4 : g4 < w5.heap.size := by omega
        obtain ⟨j, hj⟩ : ∃ j, i - na = j := ⟨_, rfl⟩
        rw [hj] at y0 y1 hb
        have j0 : (i : Int) - (na : Int) = (j : Int) := by omega
        have j1 : ¬ (i : Int) < (na : Int) := by omega
        have j2 : decide ((i : Int) < (na : Int)) = false := decide_eq_false j1
        have j3 : decide (i < na) = false := decide_eq_false hnl
        have j4 : decide ((na : Int) ≤ (i : Int)) = true := decide_eq_true (by omega)
        have j5 : decide (na ≤ i) = true := decide_eq_true (by omega)
        have j6 : na ≤ i := by omega
        have j7 : (j : Int) < (nb : Int) := by omega
        clear hk hj
        go_wp2
        refine region_ext mixed (by kernel_rfl) ?_
        (repeat (go_big_quiet_step (fail)))
        refine wpQuiet_nil ?_
        intro w6 hb6
        go_wp2
        go_roundw
        case rel => exact ⟨i + 1, by go_num, by omega, hbr5.trans (hb6.mono hs5)⟩
        case measure => simp [RowKit.intOf]; omega
    · have i1 : ¬ (i : Int) < (n : Int) := by omega
      have i2 : decide ((i : Int) < (n : Int)) = false := decide_eq_false i1
      go_wp2
      go_ret
      exact ⟨rfl, hBr⟩
end Go.Proofs.YtddigbhijfpmkaaDoor
