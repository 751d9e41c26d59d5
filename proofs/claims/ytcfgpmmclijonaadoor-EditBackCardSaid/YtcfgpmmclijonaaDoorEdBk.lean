/- Layer 25: the walk of EditBack. -/
import Derived.Test.YtcfgpmmclijonaaDoorEdBd
namespace Go.Proofs.YtcfgpmmclijonaaDoor
set_option linter.unusedVariables false
set_option linter.unusedSimpArgs false
set_option maxRecDepth 100000
open Go.RowKit Go.Shelf Go.Lib
set_option maxRecDepth 100000
set_option maxHeartbeats 16000000

theorem walkEditBack (w : World) (hT : Tabs w) (b s : ByteArray) (L : List Opr) (A : Option Addr) (c : Nat) (hA : At w.heap.size w A (oprs L)) :
    Calls Tryd.prog 4 #[.string b, .slice A L.length c, .string s] w fun e w' => e = .returned (.bool true) ∧ Below w.heap.size w w' := by
  have CA := fun w1 (hb : Below w.heap.size w w1) => alive_any w1 (tabs_on hT hb)
  have HCA := hid CA
  have HT := hid hT
  have HA := hid hA
  clear CA hT hA
  by_cases hbig : 65536 < b.size
  · have C := New_none b w hbig
    have k1 : decide ((5000 : Int) < (b.size : Int)) = true := decide_eq_true (by omega)
    have k2 : (5000 : Int) < (b.size : Int) := by omega
    go_enter Tryd.func4, Tryd.ntmps4
    go_wp2_with fail
    with_reducible refine C.mono ?_
    rintro e w1 ⟨rfl, hb1⟩
    have C2 := HCA.out w1 hb1
    clear C
    go_wp2_with fail
    with_reducible refine C2.mono ?_
    rintro e w2 ⟨rfl, hb2⟩
    have hB2 := hb1.trans (hb2.mono hb1.size)
    have C3 := HCA.out w2 hB2
    clear C2
    go_wp2_with fail
    with_reducible refine C3.mono ?_
    rintro e w3 ⟨rfl, hb3⟩
    go_wp2
    go_ret
    exact ⟨rfl, hB2.trans (hb3.mono hB2.size)⟩
  by_cases hsm : ¬ (b.size ≤ 5000 ∧ L.length ≤ 200 ∧ s.size ≤ 1000)
  · have C := New_any b w (by omega)
    have hc : (decide ((5000 : Int) < (b.size : Int)) = true) ∨ (decide ((5000 : Int) < (b.size : Int)) = false ∧ decide ((200 : Int) < (L.length : Int)) = true) ∨
        (decide ((5000 : Int) < (b.size : Int)) = false ∧ decide ((200 : Int) < (L.length : Int)) = false ∧ decide ((1000 : Int) < (s.size : Int)) = true) := by
      by_cases h : b.size ≤ 5000
      · by_cases h2 : L.length ≤ 200
        · exact .inr (.inr ⟨decide_eq_false (by omega), decide_eq_false (by omega), decide_eq_true (by omega)⟩)
        · exact .inr (.inl ⟨decide_eq_false (by omega), decide_eq_true (by omega)⟩)
      · exact .inl (decide_eq_true (by omega))
    clear hsm
    rcases hc with q1 | ⟨q1, q2⟩ | ⟨q1, q2, q3⟩
    all_goals
      go_enter Tryd.func4, Tryd.ntmps4
      go_wp2_with fail
      with_reducible refine C.mono ?_
      rintro e w1 ⟨g, hg0, rfl, h1, hb1⟩
      have C2 := HCA.out w1 hb1
      clear C h1
      go_wp2_with fail
      with_reducible refine C2.mono ?_
      rintro e w2 ⟨rfl, hb2⟩
      have hB2 := hb1.trans (hb2.mono hb1.size)
      have C3 := HCA.out w2 hB2
      clear C2
      go_wp2_with fail
      with_reducible refine C3.mono ?_
      rintro e w3 ⟨rfl, hb3⟩
      go_wp2
      go_ret
      exact ⟨rfl, hB2.trans (hb3.mono hB2.size)⟩
  have hsm := Classical.not_not.1 hsm
  obtain ⟨hb5, hL2, hs1⟩ := hsm
  have C := New_any b w (by omega)
  have k1 : decide ((5000 : Int) < (b.size : Int)) = false := decide_eq_false (by omega)
  have k2 : ¬ (5000 : Int) < (b.size : Int) := by omega
  have k3 : decide ((200 : Int) < (L.length : Int)) = false := decide_eq_false (by omega)
  have k4 : ¬ (200 : Int) < (L.length : Int) := by omega
  have k5 : decide ((1000 : Int) < (s.size : Int)) = false := decide_eq_false (by omega)
  have k6 : ¬ (1000 : Int) < (s.size : Int) := by omega
  go_enter Tryd.func4, Tryd.ntmps4
  go_wp2_with fail
  with_reducible refine C.mono ?_
  rintro e w1 ⟨g, hg0, rfl, h1, hb1⟩
  have H1 := hid h1
  have C2 := HCA.out w1 hb1
  clear C h1
  go_wp2_with fail
  with_reducible refine C2.mono ?_
  rintro e w2 ⟨rfl, hb2⟩
  have hB2 := hb1.trans (hb2.mono hb1.size)
  have H2 : Hid (EdS w2 g ⟨b, b.size, b.size, none, none, 0, 0⟩) := hid (H1.out.on hb2)
  clear C2 H1 hb1 hb2 k1 k2 k3 k4 k5 k6
  have hown0 : (w2.alloc (.cells #[] 31)).ownsRow w.heap.size 31 3 (.slice (some ⟨w2.heap.size, 0, none⟩) 0 0) 0 (txs (pastT [])) :=
    ⟨rfl, .inr ⟨w2.heap.size, 0, #[], rfl, hB2.size, World.alloc_heap_new _ _, Nat.le_refl _, by unfold maxLen; omega, rfl, rfl⟩⟩
  have hbA := (Below.refl w2.heap.size w2).alloc (Nat.le_refl _) (.cells #[] 31)
  have HS0 : Hid (S1 w (w2.alloc (.cells #[] 31)) g ⟨b, b.size, b.size, none, none, 0, 0⟩ [] (some ⟨w2.heap.size, 0, none⟩) 0) := hid
    ⟨H2.out.on hbA, ⟨by show b.size ≤ 65536; omega, by show Seam b.data.toList b.size; rw [← ba_len]; exact Seam.last _, by show Seam b.data.toList b.size; rw [← ba_len]; exact Seam.last _⟩, rfl, rfl, rfl, rfl, trivial, hown0, hB2.trans (hbA.mono hB2.size), (fun s hs => by cases hs)⟩
  clear H2 hB2 hown0 hbA
  go_wp2
  generalize w2.alloc (.cells #[] 31) = w3 at *
  go_loopg [9, 10] L.length (fun gh v9 v10 wr => ∃ (i : Nat) (S : List Stp) (E : Ed) (A9 : Option Addr) (c9 : Nat), v9 = .slice A9 S.length c9 ∧ v10 = .int .i64 (i : Int) ∧ i ≤ L.length ∧ L.length - i ≤ gh ∧ S.length ≤ i ∧ Hid (S1 w wr g E S A9 c9))
  case atStart => exact ⟨0, [], ⟨b, b.size, b.size, none, none, 0, 0⟩, _, 0, rfl, rfl, by omega, by omega, by simp, HS0⟩
  case round =>
    obtain ⟨i, S, E, A9, c9, rfl, rfl, hi, hgh, hSi, HS⟩ := hrel
    by_cases hlt : i < L.length
    · have hli : (i : Int) < (L.length : Int) := by omega
      obtain ⟨ga, oa, rfl, hga, o0, o1, o2, o3, o4, o5⟩ := (HA.out.below HS.out.bl).opr hlt
      have hsr := HS.out.bl.size
      have y0 : ga < wr.heap.size := by omega
      obtain ⟨o, ho⟩ : ∃ o, L[i]'hlt = o := ⟨_, rfl⟩
      rw [ho] at o0 o1 o2 o3 o4 o5
      have hba := (Below.refl wr.heap.size wr).alloc (Nat.le_refl _) (.cells #[.int .i64 o.d, .string o.s, .string o.nm, .int .u8 (o.md : Int), .int .i64 o.n, .bool o.keep] 43)
      have hnb : (wr.alloc (.cells #[.int .i64 o.d, .string o.s, .string o.nm, .int .u8 (o.md : Int), .int .i64 o.n, .bool o.keep] 43)).heap[wr.heap.size]? = some (.cells #[.int .i64 o.d, .string o.s, .string o.nm, .int .u8 (o.md : Int), .int .i64 o.n, .bool o.keep] 43 (0, 0)) := World.alloc_heap_new _ _
      have HS1 := hid (HS.out.on hba)
      have HNB := hid hnb
      clear ho hba hnb HS
      go_upto_region 11 with fail
      clear o0 o1 o2 o3 o4 o5 hga y0
      generalize wr.alloc (.cells #[.int .i64 o.d, .string o.s, .string o.nm, .int .u8 (o.md : Int), .int .i64 o.n, .bool o.keep] 43) = wa at *
      obtain ⟨o0, o1, o2, o3, o4, o5⟩ := opr_cell HNB.out
      have y0 := lt_of_block HNB.out
      obtain ⟨sk, hsk⟩ : ∃ z, skipE o = z := ⟨_, rfl⟩
      have HSK := hid hsk
      clear hsk
      go_cut [113] from 78 to 112 (fun v wx => v = .bool sk ∧ wx = wa)
      case first =>
        obtain ⟨d, so, nm, md, n, keep⟩ := o
        have hsk := HSK.out
        unfold skipE at hsk
        simp only at hsk o0 o1 o2 o3 o4 o5
        by_cases d3 : d = 3
        · subst d3
          simp at hsk
          subst hsk
          go_wp2
          go_meet
          exact ⟨rfl, rfl⟩
        have e3 : (d == 3) = false := beq_eq_false_iff_ne.2 d3
        by_cases d4 : d = 4
        · subst d4
          simp at hsk
          subst hsk
          go_wp2
          go_meet
          exact ⟨rfl, rfl⟩
        have e4 : (d == 4) = false := beq_eq_false_iff_ne.2 d4
        by_cases d1 : d = 1
        · subst d1
          by_cases nz : nm = ⟨#[122]⟩
          · subst nz
            simp at hsk
            subst hsk
            go_wp2
            go_meet
            exact ⟨rfl, rfl⟩
          have tz := str_ne (l := [122]) nz
          by_cases ny : nm = ⟨#[121]⟩
          · subst ny
            simp at hsk
            subst hsk
            go_wp2
            go_meet
            exact ⟨rfl, rfl⟩
          have ty := str_ne (l := [121]) ny
          simp [nz, ny] at hsk
          subst hsk
          go_wp2
          go_meet
          exact ⟨rfl, rfl⟩
        have e1 : (d == 1) = false := beq_eq_false_iff_ne.2 d1
        by_cases d0 : d = 0
        · subst d0
          by_cases hz : 5000 < so.size
          · have q1 : decide ((5000 : Int) < (so.size : Int)) = true := decide_eq_true (by omega)
            have q2 : (5000 : Int) < (so.size : Int) := by omega
            simp [hz] at hsk
            subst hsk
            go_wp2
            go_meet
            exact ⟨rfl, rfl⟩
          · have q1 : decide ((5000 : Int) < (so.size : Int)) = false := decide_eq_false (by omega)
            have q2 : ¬ (5000 : Int) < (so.size : Int) := by omega
            simp [hz] at hsk
            subst hsk
            go_wp2
            go_meet
            exact ⟨rfl, rfl⟩
        have e0 : (d == 0) = false := beq_eq_false_iff_ne.2 d0
        simp [d0, d1, d3, d4] at hsk
        subst hsk
        go_wp2
        go_meet
        exact ⟨rfl, rfl⟩
      case rest =>
      obtain ⟨rfl, rfl⟩ := hcut
      cases sk with
      | true =>
        go_wp2
        go_roundg (L.length - (i + 1))
        case measure => omega
        case rel => exact ⟨i + 1, S, E, A9, c9, rfl, by go_num, by omega, by omega, by omega, HS1⟩
      | false =>
        have HS2 := HS1.out
        have C4 := ltext_any HS2.hE
        unfold txV at C4
        go_wp2_with fail
        with_reducible refine C4.mono ?_
        rintro e w4 ⟨rfl, hb4⟩
        have hs4 := hb4.size
        have hba := (Below.refl w4.heap.size w4).alloc (Nat.le_refl _) (.cells #[.string E.b, .int .i64 (E.x : Int), .int .i64 (E.y : Int)] 31)
        have hnb : (w4.alloc (.cells #[.string E.b, .int .i64 (E.x : Int), .int .i64 (E.y : Int)] 31)).heap[w4.heap.size]? = some (.cells #[.string E.b, .int .i64 (E.x : Int), .int .i64 (E.y : Int)] 31 (0, 0)) := World.alloc_heap_new _ _
        have hB4 := hb4.trans (hba.mono hs4)
        have HNT := hid hnb
        have HNO := hid ((hB4.block wr.heap.size y0).trans HNB.out)
        have HS4 := hid (HS2.on hB4)
        have C5 := Depth_any HS4.out.hE
        rw [HS4.out.hk, HS4.out.hm] at C5
        have HS2' := hid HS2
        clear C4 HS2 HS1 HNB hb4 hba hnb hB4 o0 o1 o2 o3 o4 o5
        go_wp2_with fail
        with_reducible refine C5.mono ?_
        rintro e w5 ⟨rfl, hb5⟩
        have HS5 := hid (HS4.out.on hb5)
        have hs5 := hb5.size
        have HNO5 := hid ((hb5.block _ (lt_of_block HNO.out)).trans HNO.out)
        have HNT5 := hid ((hb5.block _ (lt_of_block HNT.out)).trans HNT.out)
        obtain ⟨o0, o1, o2, o3, o4, o5⟩ := opr_cell HNO5.out
        have y5 := lt_of_block HNO5.out
        have C6 := do_any (tabs_on HT.out HS5.out.bl) HS5.out.hE HS5.out.ok (by rw [HS5.out.hk]; omega) o HSK.out
        unfold opV at C6
        clear C5 HS4 hb5 HNO HNT HS2' y0
        go_wp2_with fail
        with_reducible refine C6.mono ?_
        rintro e w6 ⟨rfl, E', hE6, hd6, hg6⟩
        have hs6 := hg6.size
        have hgw : w4.heap.size ≠ g := by
          have := HS5.out.hE.lt
          intro e
          have h1 := HS5.out.hE
          have h2 := HNT5.out
          unfold EdS EdAt at h1
          rw [e, h1] at h2
          simp [edC] at h2
        have HNT6 := hid ((hg6.block _ (lt_of_block HNT5.out) (fun e => hgw (by injection e))).trans HNT5.out)
        have HS6 := hid (HS5.out.did hg0 hd6 hE6 hg6)
        have C7 := Depth_any HS6.out.hE
        rw [HS6.out.hm] at C7
        clear C6 HS5 HNO5 HNT5 hE6 hd6 hg6 o0 o1 o2 o3 o4 o5 y5
        go_wp2_with fail
        with_reducible refine C7.mono ?_
        rintro e w7 ⟨rfl, hb7⟩
        have HS7 := hid (HS6.out.on hb7)
        have HNT7 := hid ((hb7.block _ (lt_of_block HNT6.out)).trans HNT6.out)
        have C8 := ltext_any HS7.out.hE
        unfold txV at C8
        have hs7 := hb7.size
        clear C7 HS6 HNT6 hb7
        go_wp2_with fail
        with_reducible refine C8.mono ?_
        rintro e w8 ⟨rfl, hb8⟩
        have hs8 := hb8.size
        have hba := (Below.refl w8.heap.size w8).alloc (Nat.le_refl _) (.cells #[.string E'.b, .int .i64 (E'.x : Int), .int .i64 (E'.y : Int)] 31)
        have hnb : (w8.alloc (.cells #[.string E'.b, .int .i64 (E'.x : Int), .int .i64 (E'.y : Int)] 31)).heap[w8.heap.size]? = some (.cells #[.string E'.b, .int .i64 (E'.x : Int), .int .i64 (E'.y : Int)] 31 (0, 0)) := World.alloc_heap_new _ _
        have hB8 := hb8.trans (hba.mono hs8)
        have HNU := hid hnb
        have HNT8 := hid ((hB8.block _ (lt_of_block HNT7.out)).trans HNT7.out)
        have HS8 := hid (HS7.out.on hB8)
        have e1 : w8.heap.size < (w8.alloc (.cells #[.string E'.b, .int .i64 (E'.x : Int), .int .i64 (E'.y : Int)] 31)).heap.size := by simp
        clear C8 HS7 HNT7 hb8 hba hnb hB8
        go_upto_region 17 with fail
        generalize w8.alloc (.cells #[.string E'.b, .int .i64 (E'.x : Int), .int .i64 (E'.y : Int)] 31) = w9 at *
        have z0 := blk_cell HNU.out 0
        have z1 := blk_cell HNU.out 1
        have z2 := blk_cell HNU.out 2
        have t0 := blk_cell HNT8.out 0
        have hlt4 := lt_of_block HNT8.out
        have hok := HS8.out.ok
        have hle := hok.le
        have hbb := hok.1
        have SA := fun w1 => seam_any E'.b (E'.x : Int) w1 (by omega) (by omega) (by omega)
        have SB := fun w1 => seam_any E'.b (E'.y : Int) w1 (by omega) (by omega) (by omega)
        rw [hok.2.1.seamE] at SA
        rw [hok.2.2.seamE] at SB
        go_cut [181] from 131 to 180 (fun v wx => v = .bool false ∧ Below w9.heap.size w9 wx)
        case first =>
          have r0 : decide ((256 : Int) < (E'.k : Int)) = false := decide_eq_false (by rcases HS8.out.cs with ⟨_, h, _⟩ | ⟨h, _⟩ <;> omega)
          have r1 : decide ((E'.k : Int) < (S.length : Int)) = false := decide_eq_false (by rcases HS8.out.cs with ⟨_, h, _⟩ | ⟨h, _⟩ <;> omega)
          have r2 : decide ((S.length : Int) + 1 < (E'.k : Int)) = false := decide_eq_false (by rcases HS8.out.cs with ⟨_, h, _⟩ | ⟨h, _⟩ <;> omega)
          have r3 : ¬ (256 : Int) < (E'.k : Int) := of_decide_eq_false r0
          have r4 : ¬ (E'.k : Int) < (S.length : Int) := of_decide_eq_false r1
          have r5 : ¬ (S.length : Int) + 1 < (E'.k : Int) := of_decide_eq_false r2
          have r6 : ¬ E'.k < S.length := by omega
          have r7 : ¬ S.length + 1 < E'.k := by omega
          have r8 : (E'.k : Int) < 256 := by rcases HS8.out.cs with ⟨_, h, _⟩ | ⟨h, _⟩ <;> omega
          have r9 : decide ((E'.k : Int) < 256) = true := decide_eq_true r8
          have HSA := hid SA
          have HSB := hid SB
          rcases HS8.out.cs with ⟨q1, q2, _⟩ | ⟨q2, _⟩
          · have s1 : ((E'.k : Int) == (S.length : Int)) = true := beq_iff_eq.2 (by omega)
            have s2 : (E'.b.toList == E.b.toList) = true := by rw [q1]; simp
            clear q1 q2
            go_wp2_with fail
            with_reducible refine (SA _).mono ?_
            rintro e wx ⟨rfl, hbx⟩
            clear z0 z1 z2 t0
            have z0 := blk_cell ((hbx.block _ (lt_of_block HNU.out)).trans HNU.out) 0
            have z2 := blk_cell ((hbx.block _ (lt_of_block HNU.out)).trans HNU.out) 2
            have t0 := blk_cell ((hbx.block _ (lt_of_block HNT8.out)).trans HNT8.out) 0
            have y1 := lt_of_block ((hbx.block _ (lt_of_block HNU.out)).trans HNU.out)
            have y2 := lt_of_block ((hbx.block _ (lt_of_block HNT8.out)).trans HNT8.out)
            go_wp2_with fail
            with_reducible refine (SB _).mono ?_
            rintro e wy ⟨rfl, hby⟩
            have hbxy := hbx.trans (hby.mono hbx.size)
            clear z0 z2 t0
            have z0 := blk_cell ((hbxy.block _ (lt_of_block HNU.out)).trans HNU.out) 0
            have t0 := blk_cell ((hbxy.block _ (lt_of_block HNT8.out)).trans HNT8.out) 0
            have y3 := lt_of_block ((hbxy.block _ (lt_of_block HNU.out)).trans HNU.out)
            have y4 := lt_of_block ((hbxy.block _ (lt_of_block HNT8.out)).trans HNT8.out)
            go_wp2
            go_meet
            exact ⟨rfl, hbxy⟩
          · have s1 : ((E'.k : Int) == (S.length : Int)) = false := beq_eq_false_iff_ne.2 (by omega)
            have s3 : ¬ (E'.k : Int) = (S.length : Int) := by omega
            clear q2
            go_wp2_with fail
            with_reducible refine (SA _).mono ?_
            rintro e wx ⟨rfl, hbx⟩
            clear z0 z1 z2 t0
            have z0 := blk_cell ((hbx.block _ (lt_of_block HNU.out)).trans HNU.out) 0
            have z2 := blk_cell ((hbx.block _ (lt_of_block HNU.out)).trans HNU.out) 2
            have y1 := lt_of_block ((hbx.block _ (lt_of_block HNU.out)).trans HNU.out)
            go_wp2_with fail
            with_reducible refine (SB _).mono ?_
            rintro e wy ⟨rfl, hby⟩
            have hbxy := hbx.trans (hby.mono hbx.size)
            clear z0 z2
            go_wp2
            go_meet
            exact ⟨rfl, hbxy⟩
        case rest =>
          obtain ⟨rfl, hbx⟩ := hcut
          have HS9 := hid (HS8.out.on hbx)
          have HNT9 := hid ((hbx.block _ (lt_of_block HNT8.out)).trans HNT8.out)
          clear HS8 HNT8 HNU z0 z1 z2 t0 SA SB hbx hok hle hbb
          have S9 := HS9.out
          rcases S9.cs with ⟨q1, q2, q3, q4⟩ | ⟨q2, q3, q4⟩
          · have r1 : decide ((S.length : Int) < (E'.k : Int)) = false := decide_eq_false (by omega)
            have r2 : ¬ (S.length : Int) < (E'.k : Int) := by omega
            have HF : Hid (S1 w wc g E' S A9 c9) := hid ⟨S9.hE, S9.ok, S9.hq, S9.hm, q2, q3, q4, S9.ow, S9.bl, S9.al⟩
            clear S9 HS9 q1 q2 q3 q4
            go_wp2
            go_roundg (L.length - (i + 1))
            case measure => omega
            case rel => exact ⟨i + 1, S, E', A9, c9, rfl, by go_num, by omega, by omega, by omega, HF⟩
          · have r1 : decide ((S.length : Int) < (E'.k : Int)) = true := decide_eq_true (by omega)
            have r2 : (S.length : Int) < (E'.k : Int) := by omega
            have t0 := blk_cell HNT9.out 0
            have t1 := blk_cell HNT9.out 1
            have t2 := blk_cell HNT9.out 2
            have tl := lt_of_block HNT9.out
            have HQ := hid (And.intro q2 (And.intro q3 q4))
            have hbal := (Below.refl wc.heap.size wc).alloc (Nat.le_refl _) (.cells #[.string E.b, .int .i64 (E.x : Int), .int .i64 (E.y : Int)] 31)
            have hnw : (wc.alloc (.cells #[.string E.b, .int .i64 (E.x : Int), .int .i64 (E.y : Int)] 31)).heap[wc.heap.size]? = some (.cells #[.string E.b, .int .i64 (E.x : Int), .int .i64 (E.y : Int)] 31 (0, 0)) := World.alloc_heap_new _ _
            have HS10 := hid (S9.on hbal)
            have HCH := hid (q3.on hbal)
            have HNW := hid hnw
            have hsc := hbal.size
            clear q2 q3 q4 S9 hnw
            have hpl := pastT_len S
            go_wp2_with (
              at_builtin
              refine append_text rfl _ _ rfl w.heap.size (.slice A9 S.length c9) (pastT S) ⟨E.b, E.x, E.y⟩ wc.heap.size rfl rfl (by rw [hpl]; exact HS10.out.ow) (by rw [blk_cell HNW.out]; rfl) (by rw [blk_cell HNW.out]; rfl) (by rw [blk_cell HNW.out]; rfl) (by omega) HS10.out.bl.size (fun v' w11 k1 k2 k3 => ?_)
              rw [show (pastT S ++ [(⟨E.b, E.x, E.y⟩ : Tx)]).length = S.length + 1 by rw [List.length_append, hpl]; rfl] at k1
              obtain ⟨A', cc', rfl⟩ := own_shape k1
              have HF : Hid (S1 w w11 g E' (⟨⟨E.b, E.x, E.y⟩, ⟨E'.b, E'.x, E'.y⟩⟩ :: S) A' cc') := hid ⟨EdS.row HS10.out.ow k2 HS10.out.hE, HS10.out.ok, HS10.out.hq, HS10.out.hm, HQ.out.1, Chain.row HS10.out.ow k2 _ _ HCH.out, HQ.out.2.2, by rw [pastT_cons]; exact k1, HS10.out.bl.grown k2 HS10.out.bl.size (fun k hk => own_ge HS10.out.ow k hk), (fun s hs => by rcases List.mem_cons.1 hs with rfl | hs; exact HS10.out.eo; exact HS10.out.al s hs)⟩
              clear k1 k2 k3)
            go_roundg (L.length - (i + 1))
            case measure => omega
            case rel => exact ⟨i + 1, ⟨⟨E.b, E.x, E.y⟩, ⟨E'.b, E'.x, E'.y⟩⟩ :: S, E', A', cc', rfl, by go_num, by omega, by omega, by simp; omega, HF⟩
    · have hie : i = L.length := by omega
      subst hie
      have S0 := HS.out
      have C4 := Depth_any S0.hE
      rw [S0.hk, S0.hm] at C4
      clear S0
      go_wp2_with fail
      with_reducible refine C4.mono ?_
      rintro e w4 ⟨rfl, hb4⟩
      have HS4 := hid (HS.out.on hb4)
      clear C4 HS hb4
      have r1 : ((S.length : Int) == (S.length : Int)) = true := beq_iff_eq.2 rfl
      have r2 : ¬ (S.length : Int) = 256 := by omega
      have r3 : ((S.length : Int) == 256) = false := beq_eq_false_iff_ne.2 r2
      by_cases hz : S.length = 0
      · have hS : S = [] := List.eq_nil_of_length_eq_zero hz
        subst hS
        have hp : E.p = none := HS4.out.ch
        have hE4 : EdAt w4 g E.b E.x E.y (.pointer none) (.pointer E.q) E.k E.m := by
          have := HS4.out.hE
          unfold EdS at this
          rw [hp] at this
          exact this
        have C5 := Undo_none hE4
        have hB4 := HS4.out.bl
        clear HS4 hE4
        go_wp2_with fail
        with_reducible refine C5.mono ?_
        rintro e w5 ⟨rfl, hb5⟩
        go_wp2
        go_ret
        exact ⟨rfl, hB4.trans (hb5.mono hB4.size)⟩
      · have r4 : ¬ (S.length : Int) = 0 := by omega
        have r5 : ((S.length : Int) == 0) = false := beq_eq_false_iff_ne.2 r4
        go_wp2
        have HI2 : Hid (S2 w w4 w4 g E S 0) := hid ⟨HS4.out.hE, HS4.out.ch, HS4.out.hq, HS4.out.hk, HS4.out.hm, World.grownBy.refl _ _, HS4.out.bl⟩
        go_loopg [22, 23] S.length (fun gh v22 v23 wr => ∃ (j : Nat) (E2 : Ed) (A2 : Option Addr) (c2 : Nat) (xs : List Tx), v22 = .slice A2 j c2 ∧ v23 = .int .i64 ((S.length : Int) - 1 - (j : Int)) ∧ j ≤ S.length ∧ S.length - j ≤ gh ∧ xs.length = j ∧ Hid (S2 w w4 wr g E2 S j) ∧ Hid (wr.ownsRow w4.heap.size 31 3 (.slice A2 j c2) j (txs xs)))
        case atStart => exact ⟨0, E, none, 0, [], rfl, by simp, by omega, by omega, rfl, HI2, hid (World.ownsRow_nil _ _ _ _)⟩
        case round =>
          obtain ⟨j, E2, A2, c2, xs, rfl, rfl, hj, hgj, hxs, H2, HO⟩ := hrel
          by_cases hjl : j < S.length
          · obtain ⟨i, hi2⟩ : ∃ i : Nat, S.length - 1 - j = i := ⟨_, rfl⟩
            have hi3 : (S.length : Int) - 1 - (j : Int) = (i : Int) := by omega
            rw [hi3]
            obtain ⟨t, r, ht1, ht2, ht3, ht4⟩ := H2.out.undo hjl
            obtain ⟨kk, hkk⟩ : ∃ kk, E2.k = kk + 1 := ⟨E2.k - 1, by have := H2.out.hk; omega⟩
            have hE2 : EdAt wr g E2.b E2.x E2.y (.pointer (some ⟨t, 0, none⟩)) (.pointer E2.q) (kk + 1) E2.m := by
              have := H2.out.hE
              unfold EdS at this
              rw [ht1, hkk] at this
              exact this
            have hmm := H2.out.hm
            have hkj := H2.out.hk
            have C5 := Undo_any hE2 ht2 ht3 (by omega) (by omega)
            have HT4 := hid ht4
            obtain ⟨T, hT⟩ : ∃ T, (S[j]'hjl).u = T := ⟨_, rfl⟩
            obtain ⟨V, hV⟩ : ∃ V, (S[j]'hjl).v = V := ⟨_, rfl⟩
            rw [hT, hV] at C5 HT4
            have HTT := hid hT
            clear hE2 ht1 ht2 ht4 hT hV
            go_wp2_with fail
            with_reducible refine C5.mono ?_
            rintro e w5 ⟨t', rfl, hE5, hS5, ht5, hg5⟩
            have HS5 := hid (HT4.out t' w5 kk hg5 hE5 (by omega) hS5 hg0)
            have hO5 : w5.ownsRow w4.heap.size 31 3 (.slice A2 j c2) j (txs xs) := by
              refine HO.out.kept hg5 ?_
              have hne := own_ne HO.out H2.out.hE (by decide)
              cases hv : (Value.slice A2 j c2).ownBlock with
              | none => exact .inl rfl
              | some k => exact .inr (fun e => hne (by rw [hv, e]))
            have HO5 := hid hO5
            have C6 := Depth_any HS5.out.hE
            rw [show (⟨T.b, T.x, T.y, r, some ⟨t', 0, none⟩, kk, j + 1⟩ : Ed).k = kk from rfl, show (⟨T.b, T.x, T.y, r, some ⟨t', 0, none⟩, kk, j + 1⟩ : Ed).m = j + 1 from rfl] at C6
            clear C5 hE5 hS5 hg5 hO5 HT4 H2 HO
            go_wp2_with fail
            with_reducible refine C6.mono ?_
            rintro e w6 ⟨rfl, hb6⟩
            have HS6 := hid (HS5.out.on_ hb6)
            have HO6 := hid (own_below' HO5.out hb6)
            have hki : kk = i := by omega
            subst hki
            have q1 : ((kk : Int) == (kk : Int)) = true := beq_iff_eq.2 rfl
            have q2 : (((j : Int) + 1) == ((S.length : Int) - (kk : Int))) = true := beq_iff_eq.2 (by omega)
            have q3 : (j : Int) + 1 = (S.length : Int) - (kk : Int) := by omega
            have hpl := pastT_len S
            have hki : kk < (pastT S).length := by omega
            obtain ⟨gp, op, rfl, hgp, p0, p1, p2⟩ := (at_past HS4.out HS6.out.gr).tx hki
            have hpat : (pastT S)[kk]'hki = T := by
              rw [← HTT.out]
              have := pastT_at S j hjl (by omega)
              simp only [hi2] at this
              exact this
            rw [hpat] at p0 p1 p2
            have hgs := HS6.out.gr.size
            have y1 : gp < w6.heap.size := by omega
            have hself := txEq_self T.b (T.x : Int) (T.y : Int)
            have C7 := fun (x : Ext w6) => ltext_any ((HS6.out.on_ x.2).hE)
            unfold txV at C7
            simp only at C7
            have hSk : (kk : Int) < (S.length : Int) := by omega
            clear C6 HS5 HO5 hb6 hpat
            go_wp2
            refine region_ext mixed (by kernel_rfl) ?_
            (repeat (go_big_quiet_step (first | (go_at_call 10; with_reducible exact in_ext (C7 _)))))
            refine wpQuiet_nil ?_
            intro w7 hb7
            have HS7 := hid (HS6.out.on_ hb7)
            have HO7 := hid (own_below' HO6.out hb7)
            have C8 := ltext_any HS7.out.hE
            unfold txV at C8
            simp only at C8
            clear C7 HS6 HO6 p0 p1 p2 hb7 y1
            go_wp2_with fail
            with_reducible refine C8.mono ?_
            rintro e w8 ⟨rfl, hb8⟩
            have hbal := (Below.refl w8.heap.size w8).alloc (Nat.le_refl _) (.cells #[.string T.b, .int .i64 (T.x : Int), .int .i64 (T.y : Int)] 31)
            have hnw : (w8.alloc (.cells #[.string T.b, .int .i64 (T.x : Int), .int .i64 (T.y : Int)] 31)).heap[w8.heap.size]? = some (.cells #[.string T.b, .int .i64 (T.x : Int), .int .i64 (T.y : Int)] 31 (0, 0)) := World.alloc_heap_new _ _
            have HB8 := hb8.trans (hbal.mono hb8.size)
            have HS8 := hid (HS7.out.on_ HB8)
            have HO8 := hid (own_below' HO7.out HB8)
            have HNW := hid hnw
            have hgs8 := HS8.out.gr.size
            have hgs9 := HS4.out.bl.size
            clear C8 HS7 HO7 hb8 hbal hnw HB8
            go_wp2_with (
              at_builtin
              refine append_text rfl _ _ rfl w4.heap.size (.slice A2 j c2) xs T w8.heap.size rfl rfl (by rw [hxs]; exact HO8.out) (by rw [blk_cell HNW.out]; rfl) (by rw [blk_cell HNW.out]; rfl) (by rw [blk_cell HNW.out]; rfl) (by omega) hgs8 (fun v' w11 k1 k2 k3 => ?_)
              rw [show (xs ++ [T]).length = j + 1 by rw [List.length_append, hxs]; rfl] at k1
              obtain ⟨A', cc', rfl⟩ := own_shape k1
              have HF := hid (HS8.out.row HO8.out k2 (Nat.le_refl _) hgs9)
              have HOF := hid k1
              clear k1 k2 k3)
            go_roundg (S.length - (j + 1))
            case measure => omega
            case rel => exact ⟨j + 1, ⟨T.b, T.x, T.y, r, some ⟨t', 0, none⟩, kk, j + 1⟩, A', cc', xs ++ [T], rfl, by go_num, by omega, by omega, by simp [hxs], HF, HOF⟩
          · have hje : j = S.length := by omega
            subst hje
            rw [show (S.length : Int) - 1 - (S.length : Int) = -1 by omega]
            have HI3 := H2
            clear H2 HO
            go_wp2
            go_loopg [28] S.length (fun gh v28 wr => ∃ (i : Nat) (E3 : Ed), v28 = .int .i64 (i : Int) ∧ i ≤ S.length ∧ S.length - i ≤ gh ∧ Hid (S2 w w4 wr g E3 S (S.length - i)))
            case atStart => exact ⟨0, E2, rfl, by omega, by omega, HI3⟩
            case round =>
              clear HI3
              obtain ⟨i, E3, rfl, hi3, hgi, H3⟩ := hrel
              by_cases hil : i < S.length
              · obtain ⟨j, hj⟩ : ∃ j, S.length - i = j + 1 := ⟨S.length - i - 1, by omega⟩
                rw [hj] at H3
                have hjl : j < S.length := by omega
                obtain ⟨t, r, ht1, ht2, ht3, ht4⟩ := H3.out.redo hjl
                obtain ⟨mm, hmm⟩ : ∃ mm, E3.m = mm + 1 := ⟨E3.m - 1, by have := H3.out.hm; omega⟩
                have hk3 : E3.k = i := by have := H3.out.hk; omega
                have hmj : mm = j := by have := H3.out.hm; omega
                have hE3 : EdAt wr g E3.b E3.x E3.y (.pointer E3.p) (.pointer (some ⟨t, 0, none⟩)) i (mm + 1) := by
                  have := H3.out.hE
                  unfold EdS at this
                  rw [ht1, hmm, hk3] at this
                  exact this
                have C5 := Redo_any hE3 ht2 ht3 (by omega) (by omega)
                rw [hk3] at ht4
                have HT4 := hid ht4
                obtain ⟨T, hT⟩ : ∃ T, (S[j]'hjl).u = T := ⟨_, rfl⟩
                obtain ⟨V, hV⟩ : ∃ V, (S[j]'hjl).v = V := ⟨_, rfl⟩
                rw [hT, hV] at C5 HT4
                have HVV := hid hV
                clear hE3 ht1 ht2 ht4 hT hV H3 hk3
                subst hmj
                go_wp2_with fail
                with_reducible refine C5.mono ?_
                rintro e w5 ⟨t', rfl, hE5, hS5, ht5, hg5⟩
                have HS5 := hid (HT4.out t' w5 mm hg5 hE5 (by omega) hS5 hg0)
                have C6 := Depth_any HS5.out.hE
                rw [show (⟨V.b, V.x, V.y, some ⟨t', 0, none⟩, r, i + 1, mm⟩ : Ed).k = i + 1 from rfl, show (⟨V.b, V.x, V.y, some ⟨t', 0, none⟩, r, i + 1, mm⟩ : Ed).m = mm from rfl] at C6
                clear C5 hE5 hS5 hg5 HT4
                go_wp2_with fail
                with_reducible refine C6.mono ?_
                rintro e w6 ⟨rfl, hb6⟩
                have HS6 := hid (HS5.out.on_ hb6)
                have q2 : ((mm : Int) == ((S.length : Int) - 1 - (i : Int))) = true := beq_iff_eq.2 (by omega)
                have q3 : (mm : Int) = (S.length : Int) - 1 - (i : Int) := by omega
                have hnj : S.length - (i + 1) = mm := by omega
                clear C6 HS5 hb6
                by_cases hin : i + 1 < S.length
                · have q4 : decide ((i : Int) + 1 < (S.length : Int)) = true := decide_eq_true (by omega)
                  have q5 : (i : Int) + 1 < (S.length : Int) := by omega
                  have hpl := pastT_len S
                  have hki : i + 1 < (pastT S).length := by omega
                  obtain ⟨gp, op, rfl, hgp, p0, _, _⟩ := (at_past HS4.out HS6.out.gr).tx hki
                  have hpat : ((pastT S)[i + 1]'hki).b = V.b := by
                    obtain ⟨j2, hj2⟩ : ∃ j2, mm = j2 + 1 := ⟨mm - 1, by omega⟩
                    subst hj2
                    have h1 := pastT_at S j2 (by omega) (by omega)
                    have h2 := Lnk.at S E.b j2 (by omega) HS4.out.ln
                    have h3 : S.length - 1 - j2 = i + 1 := by omega
                    simp only [h3] at h1
                    rw [h1, ← h2, HVV.out]
                  rw [hpat] at p0
                  have hgs := HS6.out.gr.size
                  have y1 : gp < w6.heap.size := by omega
                  have C7 := fun (x : Ext w6) => ltext_any ((HS6.out.on_ x.2).hE)
                  unfold txV at C7
                  simp only at C7
                  have q6 : (V.b.toList == V.b.toList) = true := by simp
                  have hfd : ∀ w : World, (Instr.field 31 (.agg #[.string V.b, .int .i64 (V.x : Int), .int .i64 (V.y : Int)]) 0).run Tryd.prog w = .ok (.string V.b) w := fun _ => by kernel_rfl
                  clear hpat
                  go_wp2
                  refine region_ext mixed (by kernel_rfl) ?_
                  (repeat (go_big_quiet_step (first | (go_at_call 10; with_reducible exact in_ext (C7 _)))))
                  refine wpQuiet_nil ?_
                  intro w7 hb7
                  have HS7 := hid (HS6.out.on_ hb7)
                  clear C7 HS6 p0 hb7 y1
                  go_wp2
                  go_roundg (S.length - (i + 1))
                  case measure => omega
                  case rel => exact ⟨i + 1, ⟨V.b, V.x, V.y, some ⟨t', 0, none⟩, r, i + 1, mm⟩, by go_num, by omega, by omega, by rw [hnj]; exact HS7⟩
                · have q4 : decide ((i : Int) + 1 < (S.length : Int)) = false := decide_eq_false (by omega)
                  have q5 : ¬ (i : Int) + 1 < (S.length : Int) := by omega
                  go_wp2
                  refine region_ext mixed (by kernel_rfl) ?_
                  (repeat (go_big_quiet_step (fail)))
                  refine wpQuiet_nil ?_
                  intro w7 hb7
                  have HS7 := hid (HS6.out.on_ hb7)
                  clear HS6 hb7
                  go_wp2
                  go_roundg (S.length - (i + 1))
                  case measure => omega
                  case rel => exact ⟨i + 1, ⟨V.b, V.x, V.y, some ⟨t', 0, none⟩, r, i + 1, mm⟩, by go_num, by omega, by omega, by rw [hnj]; exact HS7⟩
              · have hie : i = S.length := by omega
                subst hie
                rw [Nat.sub_self] at H3
                have hq3 : E3.q = none := H3.out.on
                have hE3 : EdAt wr g E3.b E3.x E3.y (.pointer E3.p) (.pointer none) E3.k E3.m := by
                  have := H3.out.hE
                  unfold EdS at this
                  rw [hq3] at this
                  exact this
                have C5 := Redo_none hE3
                clear hE3 hq3
                go_wp2_with fail
                with_reducible refine C5.mono ?_
                rintro e w5 ⟨rfl, hb5⟩
                have HS5 := hid (H3.out.on_ hb5)
                clear C5 H3 hb5
                have hn0 : 0 < S.length := by omega
                obtain ⟨t, r, ht1, ht2, ht3, ht4⟩ := HS5.out.undo hn0
                obtain ⟨kk, hkk⟩ : ∃ kk, E3.k = kk + 1 := ⟨E3.k - 1, by have := HS5.out.hk; omega⟩
                have hm0 := HS5.out.hm
                have hk0 := HS5.out.hk
                have hE5 : EdAt w5 g E3.b E3.x E3.y (.pointer (some ⟨t, 0, none⟩)) (.pointer E3.q) (kk + 1) E3.m := by
                  have := HS5.out.hE
                  unfold EdS at this
                  rw [ht1, hkk] at this
                  exact this
                have C6 := Undo_any hE5 ht2 ht3 (by omega) (by omega)
                have HT4 := hid ht4
                have htx : TxOk (S[0]'hn0).u := HS4.out.al _ (List.getElem_mem hn0)
                obtain ⟨T, hT⟩ : ∃ T, (S[0]'hn0).u = T := ⟨_, rfl⟩
                obtain ⟨V, hV⟩ : ∃ V, (S[0]'hn0).v = V := ⟨_, rfl⟩
                rw [hT, hV] at C6 HT4
                rw [hT] at htx
                clear hE5 ht1 ht2 ht4 hT hV HS5
                go_wp2_with fail
                with_reducible refine C6.mono ?_
                rintro e w6 ⟨t', rfl, hE6, hS6, ht6, hg6⟩
                have HS6 := hid (HT4.out t' w6 kk hg6 hE6 (by omega) hS6 hg0)
                clear C6 hE6 hS6 hg6 HT4 ht6
                have hsz : (s ++ (⟨#[33]⟩ : ByteArray)).size = s.size + 1 := by rw [ByteArray.size_append]; rfl
                have z1 : ¬ 9223372036854775807 < s.size + 1 := by omega
                have z2 : ¬ 9223372036854775807 < (s ++ (⟨#[33]⟩ : ByteArray)).size := by omega
                have C7 := Type_did HS6.out.hE htx (by show kk < 256; omega) (s ++ ⟨#[33]⟩) (by omega)
                have HSZ := hid hsz
                clear hsz htx
                go_wp2_with fail
                with_reducible refine C7.mono ?_
                rintro e w7 ⟨err, E7, rfl, hE7, hR7, hg7⟩
                have C8 := Depth_any hE7
                have hfin : (err = 0 ∧ E7.m = 0) ∨ (err = 3 ∧ E7.m = 1) := by
                  rcases hR7 with ⟨_, e1, e2⟩ | ⟨_, e1, ⟨_, e2, _⟩ | ⟨_, t, z, _, _, e2, _⟩⟩
                  · exact .inr ⟨e1, by rw [e2]⟩
                  · rw [HSZ.out] at e2; omega
                  · exact .inl ⟨e1, by rw [e2]⟩
                have HB7 := hid (HS6.out.bl.grown hg7 HS6.out.bl.size (fun k hk => by injection hk with hk; omega))
                have HFIN := hid hfin
                have r6 : ((S.length : Int) == (S.length : Int)) = true := beq_iff_eq.2 rfl
                clear C7 hE7 hR7 hg7 HS6 hfin
                go_wp2_with fail
                with_reducible refine C8.mono ?_
                rintro e w8 ⟨rfl, hb8⟩
                have HB8 := hid (HB7.out.trans (hb8.mono HB7.out.size))
                clear C8 HB7 hb8
                rcases HFIN.out with ⟨e1, e2⟩ | ⟨e1, e2⟩
                · rw [e1, e2]
                  go_wp2
                  go_ret
                  exact ⟨rfl, HB8.out⟩
                · rw [e1, e2]
                  go_wp2
                  go_ret
                  exact ⟨rfl, HB8.out⟩
end Go.Proofs.YtcfgpmmclijonaaDoor
