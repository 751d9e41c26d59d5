/- Layer 25: the walk of EditShows. -/
import Derived.Test.YtcfgpmmclijonaaDoorEdShw
import Derived.Test.YtcfgpmmclijonaaDoorEdK
namespace Go.Proofs.YtcfgpmmclijonaaDoor
set_option linter.unusedVariables false
set_option linter.unusedSimpArgs false
set_option maxRecDepth 100000
open Go.RowKit Go.Shelf Go.Lib
set_option maxRecDepth 100000
set_option maxHeartbeats 16000000

theorem walkEditShows (w : World) (hT : Tabs w) (b : ByteArray) (a c : Int) (la : -9223372036854775808 ≤ a) (ua : a ≤ 9223372036854775807) :
    Calls Tryd.prog 5 #[.string b, .int .i64 a, .int .i64 c] w fun e w' => e = .returned (.bool true) ∧ Below w.heap.size w w' := by
  have CA := fun w1 (hb : Below w.heap.size w w1) => alive_any w1 (tabs_on hT hb)
  have HCA := hid CA
  clear CA hT
  by_cases hbig : 65536 < b.size
  · have C := New_none b w hbig
    have k1 : decide ((5000 : Int) < (b.size : Int)) = true := decide_eq_true (by omega)
    have k2 : (5000 : Int) < (b.size : Int) := by omega
    go_enter Tryd.func5, Tryd.ntmps5
    go_wp2_with fail
    with_reducible refine C.mono ?_
    rintro e w1 ⟨rfl, hb1⟩
    have C2 := HCA.out w1 hb1
    clear C
    go_wp2_with fail
    with_reducible refine C2.mono ?_
    rintro e w2 ⟨rfl, hb2⟩
    have hB2 := hb1.trans (hb2.mono hb1.size)
    have C3 := HCA.out w2 hB2
    clear C2
    go_wp2_with fail
    with_reducible refine C3.mono ?_
    rintro e w3 ⟨rfl, hb3⟩
    go_wp2
    go_ret
    exact ⟨rfl, hB2.trans (hb3.mono hB2.size)⟩
  have C := New_any b w (by omega)
  by_cases hb6 : b.size ≤ 5000
  rotate_left
  · have q1 : decide ((5000 : Int) < (b.size : Int)) = true := decide_eq_true (by omega)
    go_enter Tryd.func5, Tryd.ntmps5
    go_wp2_with fail
    with_reducible refine C.mono ?_
    rintro e w1 ⟨g, hg0, rfl, h1, hb1⟩
    have C2 := HCA.out w1 hb1
    clear C h1
    go_wp2_with fail
    with_reducible refine C2.mono ?_
    rintro e w2 ⟨rfl, hb2⟩
    have hB2 := hb1.trans (hb2.mono hb1.size)
    have C3 := HCA.out w2 hB2
    clear C2
    go_wp2_with fail
    with_reducible refine C3.mono ?_
    rintro e w3 ⟨rfl, hb3⟩
    go_wp2
    go_ret
    exact ⟨rfl, hB2.trans (hb3.mono hB2.size)⟩
  have k1 : decide ((5000 : Int) < (b.size : Int)) = false := decide_eq_false (by omega)
  have k2 : ¬ (5000 : Int) < (b.size : Int) := by omega
  obtain ⟨x, hx, hxe⟩ := mod_place a b.size
  have r1 := Int.lt_tmod_of_pos a (show (0 : Int) < (b.size : Int) + 1 by omega)
  have r2 := Int.tmod_lt_of_pos a (show (0 : Int) < (b.size : Int) + 1 by omega)
  obtain ⟨u, hu⟩ : ∃ u, a.tmod ((b.size : Int) + 1) = u := ⟨_, rfl⟩
  rw [hu] at hxe r1 r2
  have v1 : IntKind.i64.wrap u = u := IntWalk.i64_in _ (by omega)
  have v3 : IntKind.i64.wrap (u + ((b.size : Int) + 1)) = u + ((b.size : Int) + 1) := IntWalk.i64_in _ (by omega)
  have v5 : ¬ (b.size : Int) + 1 = 0 := by omega
  have v6 : (((b.size : Int) + 1) == 0) = false := beq_eq_false_iff_ne.2 v5
  have v7 : ¬ (b.size : Int) + 1 = -1 := by omega
  go_enter Tryd.func5, Tryd.ntmps5
  go_wp2_with fail
  with_reducible refine C.mono ?_
  rintro e w1 ⟨g, hg0, rfl, h1, hb1⟩
  have H1 := hid h1
  have C2 := HCA.out w1 hb1
  clear C h1
  go_wp2_with fail
  with_reducible refine C2.mono ?_
  rintro e w2 ⟨rfl, hb2⟩
  have hB2 := hb1.trans (hb2.mono hb1.size)
  have h2 := H1.out.on hb2
  obtain ⟨P, hP⟩ : ∃ P, settledE b.data.toList x = P := ⟨_, rfl⟩
  have hsP : Seam b.data.toList P := by rw [← hP]; exact Seam.settled (by rw [ba_len]; exact hx)
  have C3 : Calls Tryd.prog 9 #[.pointer (some ⟨g, 0, none⟩), .int .i64 (x : Int), .bool false] w2 fun e w' => e = .returned (.int .i64 0) ∧ EdAt w' g b P P (.pointer none) (.pointer none) 0 0 ∧ w2.grownBy w' (some g) := by
    rw [← hP]
    exact Move_any h2 (by omega) x hx false
  have HSP := hid hsP
  clear C2 H1 hb1 hb2 h2 hP hsP k1 k2
  go_wp2_with fail
  with_reducible refine C3.mono ?_
  rintro e w3 ⟨rfl, h3, hg3⟩
  have hB3 := grown_b hB2 hg3 hg0
  have H3 := hid h3
  clear C3 hg3 hB2 r1 r2 v1 v3 v5 v6 v7 hu hxe
  by_cases hn : c < 1 ∨ 16384 < c
  · have C4 := Show_bad h3 c hn
    have hc : (decide (c < 1) = true) ∨ (decide (c < 1) = false ∧ decide (16384 < c) = true) := by
      by_cases h0 : c < 1
      · exact .inl (decide_eq_true h0)
      · exact .inr ⟨decide_eq_false h0, decide_eq_true (by omega)⟩
    clear h3
    go_wp2_with fail
    with_reducible refine C4.mono ?_
    rintro e w4 ⟨rfl, hb4⟩
    have hB4 := hB3.trans (hb4.mono hB3.size)
    clear C4 hn
    rcases hc with q1 | ⟨q1, q2⟩
    · go_wp2
      go_ret
      exact ⟨rfl, hB4⟩
    · go_wp2
      go_ret
      exact ⟨rfl, hB4⟩
  obtain ⟨n, rfl⟩ := Int.eq_ofNat_of_zero_le (show 0 ≤ c by omega)
  have hn1 : 1 ≤ n := by omega
  have hn2 : n ≤ 16384 := by omega
  have C4 := Show_any h3 (by omega) HSP.out n hn1 hn2
  obtain ⟨za, zz, e1, e2, f1, f2, f3, f4, f5, f6, f7⟩ := show_facts b HSP.out hn1
  rw [e1, e2] at C4
  have hss : (b.extract za zz).size = zz - za := by rw [ByteArray.size_extract]; omega
  have hk0 : b.extract (P - (P - za)) (P - (P - za) + (b.extract za zz).size) = b.extract za zz := by
    rw [hss]
    congr 1 <;> omega
  obtain ⟨S, hS⟩ : ∃ S, b.extract za zz = S := ⟨_, rfl⟩
  obtain ⟨T, hTT⟩ : ∃ T, showC b P n = T := ⟨_, rfl⟩
  rw [hS, hTT] at C4
  rw [hTT] at f4 f6
  rw [hS] at hss hk0
  rw [hS] at f5 f6
  have f7' : ∀ i (hi : i < S.size), ¬ (((S[i]'hi).toNat : Int) = 10) := by
    intro i hi
    subst hS
    exact f7 i hi
  clear f7
  obtain ⟨k0, hkk⟩ : ∃ k0, P - za = k0 := ⟨_, rfl⟩
  rw [hkk] at hk0 f6
  have hk0S : k0 ≤ S.size := by omega
  have hk0b : P - k0 + S.size ≤ b.size := by omega
  have hSb : S.size ≤ b.size := by omega
  have CC := fun w1 => small (Cells_any S w1 (by omega)) (by omega)
  have CP := fun (k : Nat) w1 => small (Cells_any (S.extract 0 k) w1 (by rw [ByteArray.size_extract]; omega)) (by rw [ByteArray.size_extract]; omega)
  have HCP := hid CP
  have HK0 := hid hk0
  have HF6 := hid f6
  have HF7 := hid f7'
  clear h3 CP hk0 f6 f7' hS hTT e1 e2 hss
  obtain ⟨al, hal⟩ : ∃ z, total (pcs S.data.toList) = z := ⟨_, rfl⟩
  obtain ⟨np, hnp⟩ : ∃ z, (pcs S.data.toList).length = z := ⟨_, rfl⟩
  rw [hal, hnp] at CC
  rw [hal] at f5
  clear hal hnp
  go_wp2_with fail
  with_reducible refine C4.mono ?_
  rintro e w4 ⟨rfl, hb4⟩
  have hB4 := hB3.trans (hb4.mono hB3.size)
  have H4 := hid (H3.out.on hb4)
  clear C4 hb4 hB3 H3
  go_wp2_with fail
  with_reducible refine (CC _).mono ?_
  rintro e w5 ⟨rfl, hb5⟩
  have hB5 := hB4.trans (hb5.mono hB4.size)
  have C6 := ltext_any (H4.out.on hb5)
  unfold txV at C6
  clear CC hb5 hB4 H4
  go_wp2_with fail
  with_reducible refine C6.mono ?_
  rintro e w6 ⟨rfl, hb6'⟩
  have hB6 := hB5.trans (hb6'.mono hB5.size)
  have hfd1 : ∀ w : World, (Instr.field 31 (.agg #[.string b, .int .i64 (P : Int), .int .i64 (P : Int)]) 1).run Tryd.prog w = .ok (.agg #[.int .i64 (P : Int), .int .i64 (P : Int)]) w := fun _ => by kernel_rfl
  have hfd2 : ∀ w : World, (Instr.field 29 (.agg #[.int .i64 (P : Int), .int .i64 (P : Int)]) 0).run Tryd.prog w = .ok (.int .i64 (P : Int)) w := fun _ => by kernel_rfl
  clear C6 hb6' hB5
  go_wp2
  clear hfd1 hfd2
  have hPb : P ≤ b.size := by omega
  go_loopg [16, 17] (S.size + 1) (fun gh v16 v17 wr => ∃ (k : Nat) (f : Bool), v16 = .bool f ∧ v17 = .int .i64 (k : Int) ∧ k ≤ S.size + 1 ∧ S.size + 1 - k ≤ gh ∧ Hid (k0 < k → f = true) ∧ Below w.heap.size w wr)
  case atStart => exact ⟨0, false, rfl, rfl, by omega, by omega, hid (fun h => absurd h (by omega)), hB6⟩
  case round =>
    obtain ⟨k, f, rfl, rfl, hk, hgh, HF, hbr⟩ := hrel
    by_cases hgo : k ≤ S.size ∧ k ≤ P
    · obtain ⟨g1, g2⟩ := hgo
      have g3 : (k : Int) ≤ (S.size : Int) := by omega
      have g4 : (k : Int) ≤ (P : Int) := by omega
      have g5 : decide ((k : Int) ≤ (S.size : Int)) = true := decide_eq_true g3
      have g6 : decide ((k : Int) ≤ (P : Int)) = true := decide_eq_true g4
      have CK := HCP.out k wr
      obtain ⟨tk, htk⟩ : ∃ z, total (pcs (S.extract 0 k).data.toList) = z := ⟨_, rfl⟩
      obtain ⟨nk, hnk⟩ : ∃ z, (pcs (S.extract 0 k).data.toList).length = z := ⟨_, rfl⟩
      rw [htk, hnk] at CK
      have HTK := hid htk
      clear htk hnk
      go_wp2_with fail
      with_reducible refine CK.mono ?_
      rintro e w7 ⟨rfl, hb7⟩
      have hB7 := hbr.trans (hb7.mono hbr.size)
      obtain ⟨fr, hfr⟩ : ∃ fr, P - k = fr := ⟨_, rfl⟩
      have hfi : (P : Int) - (k : Int) = (fr : Int) := by omega
      clear CK hb7
      cases f with
      | true =>
        go_wp2
        go_roundg (S.size + 1 - (k + 1))
        case measure => omega
        case rel => exact ⟨k + 1, true, rfl, by go_num, by omega, by omega, hid (fun _ => rfl), hB7⟩
      | false =>
        have hkk0 : ¬ k0 < k := fun h => by cases HF.out h
        by_cases ht : tk = T
        · have t1 : ((tk : Int) == (T : Int)) = true := beq_iff_eq.2 (by omega)
          by_cases hfs : fr + S.size ≤ b.size
          · have t2 : decide ((fr : Int) + (S.size : Int) ≤ (b.size : Int)) = true := decide_eq_true (by omega)
            have t3 : (fr : Int) + (S.size : Int) ≤ (b.size : Int) := by omega
            have t4 : fr ≤ fr + S.size := by omega
            have t5 : fr + S.size ≤ b.size := hfs
            obtain ⟨Z, hZ⟩ : ∃ Z, ((b.extract fr (fr + S.size)).toList == S.toList) = Z := ⟨_, rfl⟩
            have HZ := hid hZ
            clear ht
            go_wp2
            go_roundg (S.size + 1 - (k + 1))
            case measure => omega
            case rel => exact ⟨k + 1, Z, rfl, by go_num, by omega, by omega, hid (fun h => by
              have hke : k = k0 := by omega
              rw [← HZ.out, ← hfr, hke, HK0.out]
              simp), hB7⟩
          · have t2 : decide ((fr : Int) + (S.size : Int) ≤ (b.size : Int)) = false := decide_eq_false (by omega)
            have t3 : ¬ (fr : Int) + (S.size : Int) ≤ (b.size : Int) := by omega
            clear ht
            go_wp2
            go_roundg (S.size + 1 - (k + 1))
            case measure => omega
            case rel => exact ⟨k + 1, false, rfl, by go_num, by omega, by omega, hid (fun h => by exfalso; omega), hB7⟩
        · have t1 : ((tk : Int) == (T : Int)) = false := beq_eq_false_iff_ne.2 (by omega)
          have t2 : ¬ (tk : Int) = (T : Int) := by omega
          go_wp2
          go_roundg (S.size + 1 - (k + 1))
          case measure => omega
          case rel => exact ⟨k + 1, false, rfl, by go_num, by omega, by omega, hid (fun h => by
            exfalso
            have hke : k = k0 := by omega
            rw [hke] at HTK
            exact ht (by rw [← HTK.out, HF6.out])), hB7⟩
    · have hf : f = true := HF.out (by omega)
      subst hf
      have hc : (decide ((k : Int) ≤ (S.size : Int)) = false ∧ ¬ k ≤ S.size) ∨ (decide ((k : Int) ≤ (S.size : Int)) = true ∧ k ≤ S.size ∧ decide ((k : Int) ≤ (P : Int)) = false ∧ ¬ k ≤ P) := by
        by_cases h : k ≤ S.size
        · exact .inr ⟨decide_eq_true (by omega), h, decide_eq_false (by omega), by omega⟩
        · exact .inl ⟨decide_eq_false (by omega), h⟩
      have q5 : decide ((al : Int) ≤ (n : Int)) = true := decide_eq_true (by omega)
      have q6 : (al : Int) ≤ (n : Int) := by omega
      have q7 : decide ((T : Int) < (n : Int)) = true := decide_eq_true (by omega)
      have q8 : (T : Int) < (n : Int) := by omega
      clear HF hgo
      rcases hc with ⟨g5, g6⟩ | ⟨g5, g6, g7, g8⟩
      · go_wp2
        go_loopg [21] S.size (fun gh v21 wr => ∃ i : Nat, v21 = .int .i64 (i : Int) ∧ i ≤ S.size ∧ S.size - i ≤ gh ∧ Below w.heap.size w wr)
        case atStart => exact ⟨0, rfl, by omega, by omega, hbr⟩
        case round =>
          clear hbr
          obtain ⟨i, rfl, hi, hgi, hbr⟩ := hrel
          by_cases hlt : i < S.size
          · have h10 := HF7.out i hlt
            have hli : (i : Int) < (S.size : Int) := by omega
            obtain ⟨y, hy⟩ : ∃ y, S[i]'hlt = y := ⟨_, rfl⟩
            rw [hy] at h10
            have h10b : ((y.toNat : Int) == 10) = false := beq_eq_false_iff_ne.2 h10
            go_wp2
            go_roundg (S.size - (i + 1))
            case measure => omega
            case rel => exact ⟨i + 1, by go_num, by omega, by omega, hbr⟩
          · have hli : ¬ (i : Int) < (S.size : Int) := by omega
            go_wp2
            go_ret
            exact ⟨rfl, hbr⟩
      · go_wp2
        go_loopg [21] S.size (fun gh v21 wr => ∃ i : Nat, v21 = .int .i64 (i : Int) ∧ i ≤ S.size ∧ S.size - i ≤ gh ∧ Below w.heap.size w wr)
        case atStart => exact ⟨0, rfl, by omega, by omega, hbr⟩
        case round =>
          clear hbr
          obtain ⟨i, rfl, hi, hgi, hbr⟩ := hrel
          by_cases hlt : i < S.size
          · have h10 := HF7.out i hlt
            have hli : (i : Int) < (S.size : Int) := by omega
            obtain ⟨y, hy⟩ : ∃ y, S[i]'hlt = y := ⟨_, rfl⟩
            rw [hy] at h10
            have h10b : ((y.toNat : Int) == 10) = false := beq_eq_false_iff_ne.2 h10
            go_wp2
            go_roundg (S.size - (i + 1))
            case measure => omega
            case rel => exact ⟨i + 1, by go_num, by omega, by omega, hbr⟩
          · have hli : ¬ (i : Int) < (S.size : Int) := by omega
            go_wp2
            go_ret
            exact ⟨rfl, hbr⟩
end Go.Proofs.YtcfgpmmclijonaaDoor
