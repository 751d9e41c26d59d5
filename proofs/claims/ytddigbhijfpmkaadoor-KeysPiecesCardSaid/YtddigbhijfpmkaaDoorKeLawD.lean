/- Layer 21: the walk of KeysBack. -/
import Derived.Test.YtddigbhijfpmkaaDoorKeBp
import Derived.Laws.Concat
namespace Go.Proofs.YtddigbhijfpmkaaDoor
set_option linter.unusedVariables false
set_option linter.unusedSimpArgs false
set_option maxRecDepth 100000
open Go.RowKit Go.Shelf Go.Lib
set_option maxRecDepth 100000
set_option maxHeartbeats 8000000

theorem textT_yes {k : Ky} (h : mayB k = true) : textT k = .tuple #[.string ⟨(textL k).toArray⟩, .int .i64 0] := by unfold textT; rw [if_pos h]
theorem textT_no {k : Ky} (h : ¬ mayB k = true) : textT k = .tuple #[.string { data := #[] }, .int .i64 210] := by unfold textT; rw [if_neg h]
theorem Parse_back {l : By} (h : (ParseL l).2.2 = 0) : mayB (ParseL l).1 = true := by
  unfold ParseL at h ⊢
  split
  · rename_i h1
    rw [if_pos h1] at h
    exact absurd h (by simp)
  · rename_i h1
    rw [if_neg h1] at h
    exact parse_may h
theorem keyT_at (nm : By) (md pa pe : Nat) : keyT (⟨nm, md⟩, pa, pe) = .tuple #[.agg #[.string ⟨nm.toArray⟩, .int .u8 (md : Int)], .int .i64 (pa : Int), .int .i64 (pe : Int)] := rfl
theorem ba_append (a b : ByteArray) : (a ++ b).data.toList = a.data.toList ++ b.data.toList := by simp
theorem walkKeysBack (w : World) (hT : Tabs w) (A : Option Addr) (c : Nat) (ks : List Ky) (s : ByteArray) (h1 : At w.heap.size w A (kys ks)) (l1 : ks.length * 24 ≤ 140737488351232) :
    Calls Tryd.prog 4 #[.slice A ks.length c, .string s] w fun e w' => e = .returned (.bool true) ∧ Below w.heap.size w w' := by
  have CA := awake_any w hT
  have CT := fun nm md w1 (hb : Below w.heap.size w w1) => Text_any nm md w1 (tabs_on hT hb)
  have CP := fun s w1 (hb : Below w.heap.size w w1) => Parse_any s w1 (tabs_on hT hb)
  have CC := fun s w1 (hb : Below w.heap.size w w1) => Chord_any s w1 (tabs_on hT hb)
  have HCT := hid CT
  have HCP := hid CP
  have HCC := hid CC
  have H1 := hid h1
  have hback := @Parse_back s.data.toList
  obtain ⟨⟨⟨pn, pm⟩, pa, pe⟩, hP⟩ : ∃ y, ParseL s.data.toList = y := ⟨_, rfl⟩
  have HP := hid hP
  rw [hP] at hback
  simp only at hback
  have HBK := hid hback
  clear CT CP CC h1 hT hP hback
  obtain ⟨n, hn⟩ : ∃ n, ks.length = n := ⟨_, rfl⟩
  have HN := hid hn
  rw [hn] at l1 ⊢
  clear hn
  go_enter Tryd.func4, Tryd.ntmps4
  go_wp2_with fail
  with_reducible refine CA.mono ?_
  rintro e w1 ⟨rfl, hb1⟩
  have C := HCP.out s w1 hb1
  rw [HP.out, keyT_at] at C
  clear CA
  obtain ⟨pb, hpb⟩ : ∃ y, (⟨pn.toArray⟩ : ByteArray) = y := ⟨_, rfl⟩
  rw [hpb] at C
  have HPB := hid hpb
  clear hpb
  go_wp2_with fail
  with_reducible refine C.mono ?_
  rintro e w2 ⟨rfl, hb2⟩
  have hB2 := (hb1.trans (hb2.mono hb1.size)).alloc (hb1.trans (hb2.mono hb1.size)).size (.cells #[.string pb, .int .u8 (pm : Int)] 31)
  have x1 : Box2 (w2.alloc (.cells #[.string pb, .int .u8 (pm : Int)] 31)) w2.heap.size pb pm := box_new _ _ _
  clear C hb1 hb2
  go_upto_if 35 with fail
  go_cut [] from 9 to 62 (fun wx => Below w.heap.size w wx)
  case first =>
    by_cases hpe : pe = 0
    · subst hpe
      have hmay := HBK.out rfl
      have C2 := HCT.out pb pm _ hB2
      rw [show (⟨pb.data.toList, pm⟩ : Ky) = ⟨pn, pm⟩ by rw [← HPB.out], textT_yes hmay] at C2
      have hpt := Parse_text hmay
      obtain ⟨tb, htb⟩ : ∃ y, (⟨(textL ⟨pn, pm⟩).toArray⟩ : ByteArray) = y := ⟨_, rfl⟩
      rw [htb] at C2
      have C3 := fun w1 hb => HCP.out tb w1 hb
      rw [show tb.data.toList = textL ⟨pn, pm⟩ by rw [← htb], hpt, keyT_at, HPB.out] at C3
      have hkq := keyEq_refl pb (pm : Int)
      clear htb hpt hmay
      go_wp2_with fail
      with_reducible refine C2.mono ?_
      rintro e w3 ⟨rfl, hb3⟩
      have hs3 := hb3.size
      simp only [World.size_alloc] at hs3
      have x2 := x1.below hb3 (by simp)
      have hB3 := hB2.trans (hb3.mono hB2.size)
      have C4 := C3 w3 hB3
      clear C2 C3 x1 hB2 hb3
      go_wp2_with fail
      with_reducible refine C4.mono ?_
      rintro e w4 ⟨rfl, hb4⟩
      have hs4 := hb4.size
      have hB4 := (hB3.trans (hb4.mono hB3.size)).alloc (hB3.trans (hb4.mono hB3.size)).size (.cells #[.string pb, .int .u8 (pm : Int)] 31)
      obtain ⟨c0, c1, c2, c3⟩ := (x2.below hb4 (by omega)).below ((Below.refl w4.heap.size w4).alloc (Nat.le_refl _) (.cells #[.string pb, .int .u8 (pm : Int)] 31)) (by omega)
      have y1 : Box2 (w4.alloc (.cells #[.string pb, .int .u8 (pm : Int)] 31)) w4.heap.size pb pm := box_new _ _ _
      obtain ⟨d0, d1, d2, d3⟩ := y1
      clear C4 x2 hB3 hb4
      go_wp2
      go_meet
      exact hB4
    · have e1 : ((pe : Int) == 0) = false := beq_eq_false_iff_ne.2 (by omega)
      go_wp2
      go_meet
      exact hB2
  case rest =>
    have hBc := hcut
    clear hcut hB2 x1 HBK HP HPB
    go_wp2
    go_loopw [4, 14, 15] (fun v4 v14 v15 wr => ∃ (i : Nat) (cb : ByteArray), v14 = .string cb ∧ v15 = .int .i64 i ∧ i ≤ n ∧ cb.size ≤ 25 * i ∧ Hid (cb.data.toList = joinT (ks.take i)) ∧ Hid (∀ k ∈ ks.take i, mayB k = true) ∧ Below w.heap.size w wr) (fun _ _ v _ => n - (RowKit.intOf v).toNat)
    case atStart => exact ⟨0, _, rfl, rfl, by omega, by decide, hid (by rw [List.take_zero]; rfl), hid (fun k hk => by rw [List.take_zero] at hk; cases hk), hBc⟩
    case round =>
      obtain ⟨i, cb, rfl, rfl, hi, hcs, HJ, HM, hbr⟩ := hrel
      have hsr := hbr.size
      clear hBc
      by_cases hin : i < n
      · have i1 : (i : Int) < (n : Int) := by omega
        have i2 : decide ((i : Int) < (n : Int)) = true := decide_eq_true i1
        have hil : i < ks.length := by rw [HN.out]; exact hin
        obtain ⟨g, o, rfl, hg, x0, x1⟩ := (H1.out.below hbr).ky hil
        have hts := List.take_succ_eq_append_getElem hil
        generalize hk : ks[i] = k at *
        obtain ⟨nm, md⟩ := k
        simp only at x0 x1
        obtain ⟨nb, hnb⟩ : ∃ y, (⟨nm.toArray⟩ : ByteArray) = y := ⟨_, rfl⟩
        have C2 := HCT.out nb md wr hbr
        rw [show (⟨nb.data.toList, md⟩ : Ky) = ⟨nm, md⟩ by rw [← hnb]] at C2
        rw [hnb] at x0
        have HNB := hid hnb
        have HTS := hid hts
        clear hnb hts hk
        by_cases hmay : mayB ⟨nm, md⟩ = true
        · rw [textT_yes hmay] at C2
          have hpt := Parse_text hmay
          have htl := text_len hmay
          obtain ⟨tb, htb⟩ : ∃ y, (⟨(textL ⟨nm, md⟩).toArray⟩ : ByteArray) = y := ⟨_, rfl⟩
          have htd : tb.data.toList = textL ⟨nm, md⟩ := by rw [← htb]
          have hts : tb.size ≤ 24 := by rw [← ba_len, htd]; exact htl
          rw [htb] at C2
          have C3 := fun w1 hb => HCP.out tb w1 hb
          rw [htd, hpt, keyT_at, HNB.out] at C3
          have hkq := keyEq_refl nb (md : Int)
          have HTD := hid htd
          have HMAY := hid hmay
          clear htb hpt htl htd hmay
          go_wp2_with fail
          with_reducible refine C2.mono ?_
          rintro e w3 ⟨rfl, hb3⟩
          have hs3 := hb3.size
          have hB3 := hbr.trans (hb3.mono hbr.size)
          have C4 := C3 w3 hB3
          clear C2 C3
          go_wp2_with fail
          with_reducible refine C4.mono ?_
          rintro e w4 ⟨rfl, hb4⟩
          have hs4 := hb4.size
          have hB4 := (hB3.trans (hb4.mono hB3.size)).alloc (hB3.trans (hb4.mono hB3.size)).size (.cells #[.string nb, .int .u8 (md : Int)] 31)
          have hb14 := (hb3.trans (hb4.mono hb3.size)).alloc (by omega) (.cells #[.string nb, .int .u8 (md : Int)] 31)
          have z0 : (w4.alloc (.cells #[.string nb, .int .u8 (md : Int)] 31)).cell? ⟨g, o + i * 2, none⟩ = some (.string nb) := by rw [hb14.cell (World.block_lt_of_cell? _ _ x0)]; exact x0
          have z1 : (w4.alloc (.cells #[.string nb, .int .u8 (md : Int)] 31)).cell? ⟨g, o + i * 2 + 1, none⟩ = some (.int .u8 (md : Int)) := by rw [hb14.cell (World.block_lt_of_cell? _ _ x1)]; exact x1
          have hlg : g < w4.heap.size + 1 := by have := World.block_lt_of_cell? _ _ x0; simp only at this; omega
          obtain ⟨y0, y1, y2, y3⟩ := box_new w4 nb md
          have hgw : (w4.alloc (.cells #[.string nb, .int .u8 (md : Int)] 31)).heap.size = w4.heap.size + 1 := World.size_alloc _ _
          have hbw : w4.heap.size < w4.heap.size + 1 := by omega
          clear C4 hb14 x0 x1 hb3 hb4 hB3
          go_wp2
          refine region_ext mixed (by kernel_rfl) ?_
          (repeat (go_big_quiet_step (fail)))
          refine wpQuiet_nil ?_
          intro w6 hb6
          have hbr6 := hB4.trans (hb6.mono hB4.size)
          have k1 : ¬ 9223372036854775807 < cb.size + tb.size := by omega
          have k2 : ¬ cb.size + tb.size > 9223372036854775807 := by omega
          have k3 : ¬ 9223372036854775807 < cb.size + 1 := by omega
          have k4 : ¬ 9223372036854775807 < cb.size + 1 + tb.size := by omega
          have hall : ∀ k ∈ ks.take (i + 1), mayB k = true := by
            intro k hk
            rw [HTS.out] at hk
            rcases List.mem_append.1 hk with h | h
            · exact HM.out k h
            · rw [List.mem_singleton.1 h]
              exact HMAY.out
          have HALL := hid hall
          have hjn := joinT_snoc (ks.take i) ⟨nm, md⟩
          rw [← HTS.out] at hjn
          have HJN := hid hjn
          clear hall hjn z0 z1 y0 y1 y2 y3 hgw hbw
          by_cases hi0 : i = 0
          · have d1 : decide ((0 : Int) < (i : Int)) = false := decide_eq_false (by omega)
            have d2 : ¬ (0 : Int) < (i : Int) := by omega
            have d3 : ¬ 0 < i := by omega
            go_wp2
            go_roundw
            case rel =>
              refine ⟨i + 1, cb ++ tb, rfl, by go_num, by omega, by rw [ByteArray.size_append]; omega, hid ?_, HALL, hbr6⟩
              rw [ba_append, HJ.out, HJN.out, HTD.out, if_pos (by rw [hi0, List.take_zero]), hi0, List.take_zero]
              rfl
            case measure => simp [RowKit.intOf]; omega
          · have d1 : decide ((0 : Int) < (i : Int)) = true := decide_eq_true (by omega)
            have d2 : (0 : Int) < (i : Int) := by omega
            have d3 : 0 < i := by omega
            go_wp2
            go_roundw
            case rel =>
              refine ⟨i + 1, cb ++ ⟨#[32]⟩ ++ tb, rfl, by go_num, by omega, by rw [ByteArray.size_append, ByteArray.size_append]; show cb.size + 1 + tb.size ≤ _; omega, hid ?_, HALL, hbr6⟩
              rw [ba_append, ba_append, HJ.out, HJN.out, HTD.out, if_neg (fun h => by have := congrArg List.length h; rw [List.length_take, HN.out, List.length_nil] at this; omega), List.append_assoc]
              rfl
            case measure => simp [RowKit.intOf]; omega
        · rw [textT_no hmay] at C2
          clear hmay
          go_wp2_with fail
          with_reducible refine C2.mono ?_
          rintro e w3 ⟨rfl, hb3⟩
          go_wp2
          go_ret
          exact ⟨rfl, hbr.trans (hb3.mono hbr.size)⟩
      · have i1 : ¬ (i : Int) < (n : Int) := by omega
        have i2 : decide ((i : Int) < (n : Int)) = false := decide_eq_false i1
        obtain rfl : i = n := by omega
        have ht : ks.take i = ks := List.take_of_length_le (Nat.le_of_eq HN.out)
        have hmay := HM.out
        have hj := HJ.out
        rw [ht] at hmay hj
        have C := HCC.out cb wr hbr
        rw [hj] at C
        obtain ⟨J1, J2⟩ := chord_join hmay
        rw [HN.out] at J1 J2
        clear HJ HM hj hmay ht
        by_cases h8 : 1 ≤ i ∧ i ≤ 8
        · rw [J1 h8] at C
          unfold ChordP at C
          simp only at C
          rw [HN.out] at C
          obtain ⟨q1, q2⟩ := h8
          have r1 : decide ((i : Int) < 1) = false := decide_eq_false (by omega)
          have r2 : decide ((8 : Int) < (i : Int)) = false := decide_eq_false (by omega)
          have r3 : ¬ i < 1 := by omega
          have r4 : ¬ 8 < i := by omega
          have r5 : ¬ i = 0 := by omega
          have r6 : decide (8 < i) = false := decide_eq_false r4
          clear J1 J2
          go_wp2_with fail
          with_reducible refine C.mono ?_
          rintro e w5 ⟨A5, c5, rfl, hown5, hb5⟩
          have hB5 := hbr.trans (hb5.mono hbr.size)
          have HA5 := hid (At.of_own hown5)
          have hs5 := hB5.size
          clear C hown5 hb5
          go_wp2
          go_loopw [24] (fun v wq => ∃ j : Nat, v = .int .i64 j ∧ j ≤ i ∧ Below w5.heap.size w5 wq) (fun v _ => i - (RowKit.intOf v).toNat)
          case atStart => exact ⟨0, rfl, by omega, Below.refl _ _⟩
          case round =>
            obtain ⟨j, rfl, hj, hbq⟩ := hrel
            have hsq := hbq.size
            have hBq := hB5.trans (hbq.mono hB5.size)
            by_cases hji : j < i
            · have t1 : (j : Int) < (i : Int) := by omega
              have t2 : decide ((j : Int) < (i : Int)) = true := decide_eq_true t1
              have hjl : j < ks.length := by rw [HN.out]; exact hji
              obtain ⟨g1, o1, rfl, hg1, x0, x1⟩ := (HA5.out.below hbq).ky hjl
              obtain ⟨g2, o2, rfl, hg2, y0, y1⟩ := (H1.out.below hBq).ky hjl
              have lg1 : g1 < wr.heap.size := by omega
              have lg2 : g2 < wr.heap.size := by have := hBq.size; omega
              obtain ⟨nb, hnb⟩ : ∃ y, (⟨ks[j].nm.toArray⟩ : ByteArray) = y := ⟨_, rfl⟩
              rw [hnb] at x0 y0
              have hkq := keyEq_refl nb (ks[j].md : Int)
              generalize ks[j].md = md at *
              clear hnb
              go_wp2
              refine region_ext mixed (by kernel_rfl) ?_
              (repeat (go_big_quiet_step (fail)))
              refine wpQuiet_nil ?_
              intro w6 hb6
              go_wp2
              go_roundw
              case rel => exact ⟨j + 1, by go_num, by omega, hbq.trans (hb6.mono hsq)⟩
              case measure => simp [RowKit.intOf]; omega
            · have t1 : ¬ (j : Int) < (i : Int) := by omega
              have t2 : decide ((j : Int) < (i : Int)) = false := decide_eq_false t1
              go_wp2
              go_ret
              exact ⟨rfl, hBq⟩
        · obtain ⟨j1, j2⟩ := J2 h8
          obtain ⟨⟨Zl, za, ze⟩, hZ⟩ : ∃ y, chordL (joinT ks) = y := ⟨_, rfl⟩
          rw [hZ] at C j1 j2
          simp only at j1 j2
          subst j1
          unfold ChordP at C
          simp only [List.length_nil] at C
          have e1 : ((ze : Int) == 0) = false := beq_eq_false_iff_ne.2 (by omega)
          have e2 : ((ze : Int) != 0) = true := by rw [bne, e1]; rfl
          have hcond : (decide ((i : Int) < 1) = true ∧ i < 1) ∨ (decide ((i : Int) < 1) = false ∧ ¬ i < 1 ∧ decide ((8 : Int) < (i : Int)) = true ∧ 8 < i) := by
            by_cases h : i < 1
            · exact .inl ⟨decide_eq_true (by omega), h⟩
            · exact .inr ⟨decide_eq_false (by omega), h, decide_eq_true (by omega), by omega⟩
          clear J1 J2 h8 hZ
          rcases hcond with ⟨q1, q2⟩ | ⟨q1, q2, q3, q4⟩
          all_goals
            go_wp2_with fail
            with_reducible refine C.mono ?_
            rintro e w5 ⟨A5, c5, rfl, _, hb5⟩
            go_wp2
            go_ret
            exact ⟨rfl, hbr.trans (hb5.mono hbr.size)⟩
end Go.Proofs.YtddigbhijfpmkaaDoor
