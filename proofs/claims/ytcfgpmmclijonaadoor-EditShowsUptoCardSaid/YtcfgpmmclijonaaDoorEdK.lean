/- Layer 25: the walk of EditKeeps. -/
import Derived.Test.YtcfgpmmclijonaaDoorEdJ
namespace Go.Proofs.YtcfgpmmclijonaaDoor
set_option linter.unusedVariables false
set_option linter.unusedSimpArgs false
set_option maxRecDepth 100000
open Go.RowKit Go.Shelf Go.Lib
set_option maxRecDepth 100000
set_option maxHeartbeats 8000000

theorem mod_place (a : Int) (n : Nat) : ∃ x : Nat, x ≤ n ∧ (a.tmod ((n : Int) + 1) + ((n : Int) + 1)).tmod ((n : Int) + 1) = (x : Int) := by
  have h1 : -((n : Int) + 1) < a.tmod ((n : Int) + 1) := by
    have := Int.lt_tmod_of_pos a (show (0 : Int) < (n : Int) + 1 by omega)
    omega
  have h2 := Int.tmod_lt_of_pos (a.tmod ((n : Int) + 1) + ((n : Int) + 1)) (show (0 : Int) < (n : Int) + 1 by omega)
  have h3 := Int.tmod_nonneg ((n : Int) + 1) (show 0 ≤ a.tmod ((n : Int) + 1) + ((n : Int) + 1) by omega)
  obtain ⟨x, hx⟩ := Int.eq_ofNat_of_zero_le h3
  exact ⟨x, by omega, hx⟩
theorem ba_append (a b : ByteArray) : (a ++ b).data.toList = a.data.toList ++ b.data.toList := by simp
theorem type_keeps {w : World} {g : Nat} {b s : ByteArray} {x y : Nat} (h : EdAt w g b x y (.pointer none) (.pointer none) 0 0) (hx : x ≤ b.size) (hy : y ≤ b.size) (hb : b.size ≤ 60000) (hs : s.size ≤ 5000) (hsx : x = y → seamE b.data.toList (x : Int) = true) :
    Calls Tryd.prog 13 #[.pointer (some ⟨g, 0, none⟩), .string s] w fun e w' => e = .returned (.int .i64 0) ∧ ∃ z p' q' k' m', EdAt w' g (b.extract 0 (min x y) ++ s ++ b.extract (max x y) b.size) z z p' q' k' m' ∧ min x y + s.size ≤ z ∧ z ≤ 65536 ∧
      seamE (b.extract 0 (min x y) ++ s ++ b.extract (max x y) b.size).data.toList (z : Int) = true ∧ w.grownBy w' (some g) := by
  refine Type_of h s _ 0 fun w1 hb1 h1 => ?_
  by_cases hn : min x y = max x y ∧ s.size = 0
  · have hxy : x = y := by omega
    subst hxy
    have C := change_none h1 (min x x) (by omega) (by omega) s hn.2
    rw [← hn.1]
    refine C.mono ?_
    rintro e w2 ⟨rfl, hb2⟩
    have hsd : s = ⟨#[]⟩ := by
      have : s.data.toList = [] := List.eq_nil_of_length_eq_zero (by rw [ba_len]; exact hn.2)
      rw [← ba_mk s, this]
    have hcat : b.extract 0 (min x x) ++ s ++ b.extract (min x x) b.size = b := by
      rw [hsd, ← ba_mk (b.extract 0 (min x x) ++ ⟨#[]⟩ ++ b.extract (min x x) b.size), ba_append, ba_append, ba_take, ba_drop]
      simp only [List.append_nil, List.take_append_drop]
    have hm : min x x = x := by omega
    refine ⟨rfl, rfl, x, _, _, _, _, by rw [hcat]; exact h1.on hb2, by omega, by omega, by rw [hcat]; exact hsx rfl, grown_below hb1 (grown_below hb2 (World.grownBy.refl _ _))⟩
  · have C := change_any h1 s (min x y) (max x y) (by omega) (by omega) (by omega) (by omega) (by omega) hn (by decide)
    refine C.mono ?_
    rintro e w2 ⟨t, z, rfl, hz, hE, hS, ht, hg⟩
    have hns : (b.extract 0 (min x y) ++ s ++ b.extract (max x y) b.size).data.toList.length = min x y + s.size + (b.size - max x y) := by
      rw [ba_len, ByteArray.size_append, ByteArray.size_append, ByteArray.size_extract, ByteArray.size_extract]
      omega
    have hge := settled_ge (l := (b.extract 0 (min x y) ++ s ++ b.extract (max x y) b.size).data.toList) (a := min x y + s.size) (by omega)
    have hle := settled_le (l := (b.extract 0 (min x y) ++ s ++ b.extract (max x y) b.size).data.toList) (a := min x y + s.size) (by omega)
    have hse := seam_settled (l := (b.extract 0 (min x y) ++ s ++ b.extract (max x y) b.size).data.toList) (a := min x y + s.size) (by omega)
    rw [← hz] at hge hle hse
    exact ⟨rfl, rfl, z, _, _, _, _, hE, hge, by omega, hse, grown_below hb1 hg⟩
theorem walkEditKeeps (w : World) (hT : Tabs w) (b s : ByteArray) (a c : Int) (la : -9223372036854775808 ≤ a) (ua : a ≤ 9223372036854775807) (lc : -9223372036854775808 ≤ c) (uc : c ≤ 9223372036854775807) :
    Calls Tryd.prog 3 #[.string b, .int .i64 a, .int .i64 c, .string s] w fun e w' => e = .returned (.bool true) ∧ Below w.heap.size w w' := by
  have CA := fun w1 (hb : Below w.heap.size w w1) => alive_any w1 (tabs_on hT hb)
  have HCA := hid CA
  clear CA hT
  by_cases hbig : 65536 < b.size
  · have C := New_none b w hbig
    have k1 : decide ((60000 : Int) < (b.size : Int)) = true := decide_eq_true (by omega)
    have k2 : (60000 : Int) < (b.size : Int) := by omega
    go_enter Tryd.func3, Tryd.ntmps3
    go_wp2_with fail
    with_reducible refine C.mono ?_
    rintro e w1 ⟨rfl, hb1⟩
    have C2 := HCA.out w1 hb1
    clear C
    go_wp2_with fail
    with_reducible refine C2.mono ?_
    rintro e w2 ⟨rfl, hb2⟩
    have hB2 := hb1.trans (hb2.mono hb1.size)
    have C3 := HCA.out w2 hB2
    clear C2
    go_wp2_with fail
    with_reducible refine C3.mono ?_
    rintro e w3 ⟨rfl, hb3⟩
    go_wp2
    go_ret
    exact ⟨rfl, hB2.trans (hb3.mono hB2.size)⟩
  have C := New_any b w (by omega)
  by_cases hsm : b.size ≤ 60000 ∧ s.size ≤ 5000
  · obtain ⟨hb6, hs5⟩ := hsm
    have k1 : decide ((60000 : Int) < (b.size : Int)) = false := decide_eq_false (by omega)
    have k2 : ¬ (60000 : Int) < (b.size : Int) := by omega
    have k3 : decide ((5000 : Int) < (s.size : Int)) = false := decide_eq_false (by omega)
    have k4 : ¬ (5000 : Int) < (s.size : Int) := by omega
    obtain ⟨x, hx, hxe⟩ := mod_place a b.size
    obtain ⟨y, hy, hye⟩ := mod_place c b.size
    have r1 := Int.lt_tmod_of_pos a (show (0 : Int) < (b.size : Int) + 1 by omega)
    have r2 := Int.tmod_lt_of_pos a (show (0 : Int) < (b.size : Int) + 1 by omega)
    have r3 := Int.lt_tmod_of_pos c (show (0 : Int) < (b.size : Int) + 1 by omega)
    have r4 := Int.tmod_lt_of_pos c (show (0 : Int) < (b.size : Int) + 1 by omega)
    obtain ⟨u, hu⟩ : ∃ u, a.tmod ((b.size : Int) + 1) = u := ⟨_, rfl⟩
    obtain ⟨v, hv⟩ : ∃ v, c.tmod ((b.size : Int) + 1) = v := ⟨_, rfl⟩
    rw [hu] at hxe r1 r2
    rw [hv] at hye r3 r4
    have v1 : IntKind.i64.wrap u = u := IntWalk.i64_in _ (by omega)
    have v2 : IntKind.i64.wrap v = v := IntWalk.i64_in _ (by omega)
    have v3 : IntKind.i64.wrap (u + ((b.size : Int) + 1)) = u + ((b.size : Int) + 1) := IntWalk.i64_in _ (by omega)
    have v4 : IntKind.i64.wrap (v + ((b.size : Int) + 1)) = v + ((b.size : Int) + 1) := IntWalk.i64_in _ (by omega)
    have v5 : ¬ (b.size : Int) + 1 = 0 := by omega
    have v6 : (((b.size : Int) + 1) == 0) = false := beq_eq_false_iff_ne.2 v5
    have v7 : ¬ (b.size : Int) + 1 = -1 := by omega
    go_enter Tryd.func3, Tryd.ntmps3
    go_wp2_with fail
    with_reducible refine C.mono ?_
    rintro e w1 ⟨g, hg0, rfl, h1, hb1⟩
    have H1 := hid h1
    have C2 := HCA.out w1 hb1
    clear C h1
    go_wp2_with fail
    with_reducible refine C2.mono ?_
    rintro e w2 ⟨rfl, hb2⟩
    have hB2 := hb1.trans (hb2.mono hb1.size)
    have H2 := hid (H1.out.on hb2)
    clear C2 H1 hb1 hb2
    go_wp2
    refine region_ext mixed (by kernel_rfl) ?_
    (repeat (go_big_quiet_step (fail)))
    refine wpQuiet_nil ?_
    intro w3 hb3
    have h3 := H2.out.on hb3
    have hB3 := hB2.trans (hb3.mono hB2.size)
    obtain ⟨P, hP⟩ : ∃ P, settledE b.data.toList x = P := ⟨_, rfl⟩
    obtain ⟨Q, hQ⟩ : ∃ Q, settledE b.data.toList y = Q := ⟨_, rfl⟩
    have P1 := settled_ge (l := b.data.toList) (a := x) (by rw [ba_len]; exact hx)
    have P2 := settled_le (l := b.data.toList) (a := x) (by rw [ba_len]; exact hx)
    have P3 := seam_settled (l := b.data.toList) (a := x) (by rw [ba_len]; exact hx)
    have Q1 := settled_ge (l := b.data.toList) (a := y) (by rw [ba_len]; exact hy)
    have Q2 := settled_le (l := b.data.toList) (a := y) (by rw [ba_len]; exact hy)
    have Q3 := seam_settled (l := b.data.toList) (a := y) (by rw [ba_len]; exact hy)
    rw [hP] at P1 P2 P3
    rw [hQ] at Q1 Q2 Q3
    rw [ba_len] at P2 Q2
    have C3 : Calls Tryd.prog 9 #[.pointer (some ⟨g, 0, none⟩), .int .i64 (x : Int), .bool false] w3 fun e w' => e = .returned (.int .i64 0) ∧ EdAt w' g b P P (.pointer none) (.pointer none) 0 0 ∧ w3.grownBy w' (some g) := by
      rw [← hP]
      exact Move_any h3 (by omega) x hx false
    have M2 := fun w1 (h1 : EdAt w1 g b P P (.pointer none) (.pointer none) 0 0) => Move_any h1 (by omega) y hy true
    rw [hQ] at M2
    have HM2 := hid M2
    have HP3 := hid P3
    have HQ3 := hid Q3
    clear h3 hb3 H2 hB2 M2 P3 Q3 hP hQ r1 r2 r3 r4 v1 v2 v3 v4 v5 v6 v7 hu hv hxe hye
    go_wp2_with fail
    with_reducible refine C3.mono ?_
    rintro e w4 ⟨rfl, h4, hg4⟩
    have hB4 := grown_b hB3 hg4 hg0
    have C4 : Calls Tryd.prog 9 #[.pointer (some ⟨g, 0, none⟩), .int .i64 (y : Int), .bool true] w4 fun e w' => e = .returned (.int .i64 0) ∧ EdAt w' g b Q P (.pointer none) (.pointer none) 0 0 ∧ w4.grownBy w' (some g) := HM2.out w4 h4
    clear C3 h4 hg4 hB3
    go_wp2_with fail
    with_reducible refine C4.mono ?_
    rintro e w5 ⟨rfl, h5, hg5⟩
    have hB5 := grown_b hB4 hg5 hg0
    have C5 := ltext_any h5
    unfold txV at C5
    have H5 := hid h5
    clear C4 h5 hg5 hB4
    go_wp2_with fail
    with_reducible refine C5.mono ?_
    rintro e w6 ⟨rfl, hb6'⟩
    have hB6 := (hB5.trans (hb6'.mono hB5.size)).alloc (hB5.trans (hb6'.mono hB5.size)).size (.cells #[.string b, .int .i64 (Q : Int), .int .i64 (P : Int)] 31)
    have H6 := hid ((H5.out.on hb6').on ((Below.refl w6.heap.size w6).alloc (Nat.le_refl _) (.cells #[.string b, .int .i64 (Q : Int), .int .i64 (P : Int)] 31)))
    have hr : (w6.alloc (.cells #[.string b, .int .i64 (Q : Int), .int .i64 (P : Int)] 31)).heap[w6.heap.size]? = some (.cells #[.string b, .int .i64 (Q : Int), .int .i64 (P : Int)] 31 (0, 0)) := World.alloc_heap_new _ _
    have z0 := blk_cell hr 0
    have z1 := blk_cell hr 1
    have z2 := blk_cell hr 2
    have HR := hid hr
    obtain ⟨lo, hlo⟩ : ∃ z, min Q P = z := ⟨_, rfl⟩
    obtain ⟨hi, hhi⟩ : ∃ z, max Q P = z := ⟨_, rfl⟩
    have m1 : min (Q : Int) (P : Int) = (lo : Int) := by omega
    have m2 : max (Q : Int) (P : Int) = (hi : Int) := by omega
    have hw7 : (w6.alloc (.cells #[.string b, .int .i64 (Q : Int), .int .i64 (P : Int)] 31)).heap.size = w6.heap.size + 1 := World.size_alloc _ _
    have hlw : w6.heap.size < w6.heap.size + 1 := by omega
    have SL : Hid (seamE b.data.toList (lo : Int) = true ∧ seamE b.data.toList (hi : Int) = true) := hid (by
      rcases Nat.le_total Q P with h | h
      · have e1 : lo = Q := by omega
        have e2 : hi = P := by omega
        rw [e1, e2]
        exact ⟨HQ3.out, HP3.out⟩
      · have e1 : lo = P := by omega
        have e2 : hi = Q := by omega
        rw [e1, e2]
        exact ⟨HP3.out, HQ3.out⟩)
    clear C5 hb6' hB5 H5 hr
    go_wp2
    generalize w6.alloc (.cells #[.string b, .int .i64 (Q : Int), .int .i64 (P : Int)] 31) = w7 at *
    refine region_ext mixed (by kernel_rfl) ?_
    (repeat (go_big_quiet_step (fail)))
    refine wpQuiet_nil ?_
    intro w8 hb8
    have r8 := (hb8.block w6.heap.size (by rw [hw7]; omega)).trans HR.out
    have hB8 := hB6.trans (hb8.mono hB6.size)
    have H8 := hid (H6.out.on hb8)
    have hlw8 : w6.heap.size < w8.heap.size := by have := hb8.size; omega
    have e0 := blk_cell r8 0
    have e1 := blk_cell r8 1
    have e2 := blk_cell r8 2
    have HR8 := hid r8
    have q1 : decide ((P : Int) < (x : Int)) = false := decide_eq_false (by omega)
    have q2 : decide (P < x) = false := decide_eq_false (by omega)
    have q3 : ¬ P < x := by omega
    have q4 : decide ((Q : Int) < (y : Int)) = false := decide_eq_false (by omega)
    have q5 : decide (Q < y) = false := decide_eq_false (by omega)
    have q6 : ¬ Q < y := by omega
    have SA := seam_any b (lo : Int) w8 (by omega) (by omega) (by omega)
    rw [SL.out.1] at SA
    have SB := fun w1 => seam_any b (hi : Int) w1 (by omega) (by omega) (by omega)
    rw [SL.out.2] at SB
    have HSB := hid SB
    clear HM2 H6 HR z0 z1 z2 hb8 hB6 r8 SB m1 m2 hw7 hlw
    go_wp2_with fail
    with_reducible refine SA.mono ?_
    rintro e w9 ⟨rfl, hb9⟩
    have SB := HSB.out w9
    have H9 := hid (H8.out.on hb9)
    have hB9 := hB8.trans (hb9.mono hB8.size)
    clear SA H8 HSB hB8 e0 e1 e2
    go_wp2_with fail
    with_reducible refine SB.mono ?_
    rintro e w10 ⟨rfl, hb10⟩
    have H10 := hid (H9.out.on hb10)
    have hB10 := hB9.trans (hb10.mono hB9.size)
    have C10 := Chosen_any H10.out Q2 P2
    rw [hlo, hhi] at C10
    clear SB H9 hB9 q1 q2 q3 q4 q5 q6 hb9 hb10 HR8
    go_wp2_with fail
    with_reducible refine C10.mono ?_
    rintro e w11 ⟨rfl, hb11⟩
    have h11 := H10.out.on hb11
    have hB11 := hB10.trans (hb11.mono hB10.size)
    have CT := type_keeps (s := s) h11 Q2 P2 hb6 hs5 (by
      intro hQP
      have : lo = Q := by omega
      rw [← this]
      exact SL.out.1)
    rw [hlo, hhi] at CT
    have n1 : lo ≤ hi := by omega
    have n2 : hi ≤ b.size := by omega
    have n3 : (lo : Int) ≤ (hi : Int) := by omega
    have n4 : (hi : Int) ≤ (b.size : Int) := by omega
    have n5 : lo ≤ b.size := by omega
    have n6 : (lo : Int) ≤ (b.size : Int) := by omega
    clear C10 H10 h11 hb11 hB10
    go_wp2_with fail
    with_reducible refine CT.mono ?_
    rintro e w12 ⟨rfl, z, p', q', k', m', h12, hz1, hz2, hz3, hg12⟩
    have hB12 := grown_b hB11 hg12 hg0
    have hcs : (b.extract 0 lo ++ s ++ b.extract hi b.size).size = lo + s.size + (b.size - hi) := by
      rw [ByteArray.size_append, ByteArray.size_append, ByteArray.size_extract, ByteArray.size_extract]
      omega
    have hcs1 : (b.extract 0 lo ++ s).size = lo + s.size := by
      rw [ByteArray.size_append, ByteArray.size_extract]
      omega
    have C13 := ltext_any h12
    unfold txV at C13
    have SN := fun w1 => seam_any (b.extract 0 lo ++ s ++ b.extract hi b.size) (z : Int) w1 (by omega) (by omega) (by omega)
    rw [hz3] at SN
    have HSN := hid SN
    have HZ := hid hz3
    have HE := hid h12
    have HC1 := hid (And.intro hcs hcs1)
    obtain ⟨B, hB⟩ : ∃ B, b.extract 0 lo ++ s ++ b.extract hi b.size = B := ⟨_, rfl⟩
    have HB := hid hB
    rw [hB] at C13 h12 HSN HE
    clear CT h12 hg12 hB11 SN hz3 hcs hcs1 hB HZ
    go_wp2_with fail
    with_reducible refine C13.mono ?_
    rintro e w13 ⟨rfl, hb13⟩
    have hB13 := (hB12.trans (hb13.mono hB12.size)).alloc (hB12.trans (hb13.mono hB12.size)).size (.cells #[.string B, .int .i64 (z : Int), .int .i64 (z : Int)] 31)
    have hr : (w13.alloc (.cells #[.string B, .int .i64 (z : Int), .int .i64 (z : Int)] 31)).heap[w13.heap.size]? = some (.cells #[.string B, .int .i64 (z : Int), .int .i64 (z : Int)] 31 (0, 0)) := World.alloc_heap_new _ _
    have hw7 : (w13.alloc (.cells #[.string B, .int .i64 (z : Int), .int .i64 (z : Int)] 31)).heap.size = w13.heap.size + 1 := World.size_alloc _ _
    have hlw : w13.heap.size < w13.heap.size + 1 := by omega
    have z0 := blk_cell hr 0
    have z1 := blk_cell hr 1
    have z2 := blk_cell hr 2
    clear C13 hr hb13 hB12 HE
    go_wp2
    generalize w13.alloc (.cells #[.string B, .int .i64 (z : Int), .int .i64 (z : Int)] 31) = w14 at *
    have CS := HSN.out
    have hcs := HC1.out.1
    have hcs1 := HC1.out.2
    have hB := HB.out
    have t1 : ¬ 9223372036854775807 < (b.extract 0 lo ++ s).size := by omega
    have t2 : ¬ 9223372036854775807 < (b.extract 0 lo ++ s ++ b.extract hi b.size).size := by omega
    have t3 : decide ((lo : Int) + (s.size : Int) ≤ (z : Int)) = true := decide_eq_true (by omega)
    have t4 : ((z : Int) == (z : Int)) = true := beq_iff_eq.2 rfl
    refine region_ext mixed (by kernel_rfl) ?_
    (repeat (go_big_quiet_step (first | (go_at_call 11; with_reducible exact in_ext (CS _)))))
    refine wpQuiet_nil ?_
    intro w15 hb15
    go_wp2
    go_ret
    exact ⟨rfl, hB13.trans (hb15.mono hB13.size)⟩
  · have hc : (decide ((60000 : Int) < (b.size : Int)) = true) ∨ (decide ((60000 : Int) < (b.size : Int)) = false ∧ decide ((5000 : Int) < (s.size : Int)) = true) := by
      by_cases h : b.size ≤ 60000
      · exact .inr ⟨decide_eq_false (by omega), decide_eq_true (by omega)⟩
      · exact .inl (decide_eq_true (by omega))
    clear hsm
    rcases hc with q1 | ⟨q1, q2⟩
    all_goals
      go_enter Tryd.func3, Tryd.ntmps3
      go_wp2_with fail
      with_reducible refine C.mono ?_
      rintro e w1 ⟨g, hg0, rfl, h1, hb1⟩
      have C2 := HCA.out w1 hb1
      clear C h1
      go_wp2_with fail
      with_reducible refine C2.mono ?_
      rintro e w2 ⟨rfl, hb2⟩
      have hB2 := hb1.trans (hb2.mono hb1.size)
      have C3 := HCA.out w2 hB2
      clear C2
      go_wp2_with fail
      with_reducible refine C3.mono ?_
      rintro e w3 ⟨rfl, hb3⟩
      go_wp2
      go_ret
      exact ⟨rfl, hB2.trans (hb3.mono hB2.size)⟩
end Go.Proofs.YtcfgpmmclijonaaDoor
