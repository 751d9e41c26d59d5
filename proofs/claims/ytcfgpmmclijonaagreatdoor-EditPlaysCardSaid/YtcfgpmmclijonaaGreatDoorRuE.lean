/- Layer 3: the reference's pieces of a text. (Printed by gen_e.py.) -/
import Derived.Test.YtcfgpmmclijonaaGreatDoorRuC2
import Derived.Test.YtcfgpmmclijonaaGreatDoorRuD
namespace Go.Proofs.YtcfgpmmclijonaaGreatDoor
set_option linter.unusedVariables false
set_option linter.unusedSimpArgs false
set_option maxRecDepth 100000
open Go.RowKit Go.Lib

theorem qrw_snoc (A : List (Nat × Nat)) (i t n r : Nat) (hA : sumw A = i) (ht : i + n = t) : qrw 0 A ++ (#[.int .i64 (i : Int), .int .i64 (t : Int), .int .i32 (r : Int), .int .i64 (wid r : Int)] : Array Value).toList = qrw 0 (A ++ [(n, r)]) := by
  rw [qrw_append]
  subst hA
  subst ht
  simp only [qrw, Nat.zero_add]
set_option maxHeartbeats 8000000 in
set_option maxRecDepth 100000 in
theorem rpieces_any (s : ByteArray) (w : World) (hs : s.size ≤ 1000000000000000000) :
    Calls Tryz.prog 76 #[.string s] w (Out (Great s.size) fun e w' => ∃ A c, e = .returned (.slice A (pcs s.data.toList).length c) ∧ w'.ownsRow w.heap.size 103 4 (.slice A (pcs s.data.toList).length c) (pcs s.data.toList).length (qrw 0 (pcs s.data.toList)) ∧ Below w.heap.size w w') := by
  have hlen : s.data.toList.length = s.size := by simp
  have CO := fun i h x => one_at s i h x
  go_enter Tryz.func76, Tryz.ntmps76
  go_wp2
  go_loopg [3, 4] s.size (fun gh v3 v4 wr => ∃ (i : Nat) (D : List (Nat × Nat)) (A : Option Addr) (c : Nat), v3 = .slice A D.length c ∧ v4 = .int .i64 i ∧ i ≤ s.size ∧ s.size - i ≤ gh ∧ Hid (Below w.heap.size w wr) ∧ Hid (RInv s.data.toList i D ∧ wr.ownsRow w.heap.size 103 4 (.slice A D.length c) D.length (qrw 0 D)))
  case atStart => exact ⟨0, [], none, 0, rfl, rfl, by omega, by omega, hid (Below.refl _ _), hid ⟨rinv_start _, World.ownsRow_nil _ _ _ _⟩⟩
  case round =>
    obtain ⟨i, D, A, c, rfl, rfl, hp, hgh, HB, HS⟩ := hrel
    have hsw := HB.out.size
    have hi2 : (i : Int) ≤ 1000000000000000000 := by omega
    by_cases hlt : i < s.size
    · have hlt' : i < s.data.toList.length := by rw [hlen]; exact hlt
      have hli : (i : Int) < (s.size : Int) := by omega
      have hw1 := wd_pos (lft s.data.toList i)
      have hw2 := lft_wd hlt'
      rw [hlen] at hw2
      have hrn := rn_le (lft s.data.toList i)
      have hCO := CO i hlt wr
      have HP := hid (rinv_open HS.out.1 hlt')
      have hsD := HS.out.1.2.1
      generalize hm : rn (lft s.data.toList i) = r at *
      generalize hn1 : wd (lft s.data.toList i) = n0 at *
      clear hm hn1
      go_wp2_with fail
      refine hCO.mono ?_
      rintro e w1 ⟨rfl, rfl⟩
      go_wp2_with fail
      refine (rWidth_any (r : Int) wr).mono ?_
      rintro e w2 ⟨rfl, hb2⟩
      have hs2 := hb2.size
      have HD : Hid ((Value.slice A D.length c).ownBlock ≠ some w2.heap.size) := hid fun e => by
        have := own_lt HS.out.2 hs2 _ e
        omega
      have HA := hid (heap_alloc_new w2 (.cells #[.int .i64 (i : Int), .int .i64 ((i + n0 : Nat) : Int), .int .i32 (r : Int), .int .i64 (wid r : Int)] 103))
      have H2 := hid (And.intro ((HB.out.trans (hb2.mono hsw)).alloc (by omega) (.cells #[.int .i64 (i : Int), .int .i64 ((i + n0 : Nat) : Int), .int .i32 (r : Int), .int .i64 (wid r : Int)] 103)) (own_below' (own_below' HS.out.2 hb2) ((Below.refl _ _).alloc (Nat.le_refl _) (.cells #[.int .i64 (i : Int), .int .i64 ((i + n0 : Nat) : Int), .int .i32 (r : Int), .int .i64 (wid r : Int)] 103))))
      have hbb : w.heap.size ≤ w2.heap.size := by omega
      have hCR := fun x => rctl_any (r : Int) x
      have hz : (i : Int) + (n0 : Int) ≤ 1000000000000000000 := by omega
      clear hb2 hCO HS HB
      go_wp2
      go_loopg [] s.size (fun gh wr => ∃ t n : Nat, t ≤ s.size ∧ i < t ∧ s.size - t ≤ gh ∧ wr.heap[w2.heap.size]? = some (.cells #[.int .i64 (i : Int), .int .i64 (t : Int), .int .i32 (r : Int), .int .i64 (wid r : Int)] 103 (0, 0)) ∧ Hid (Below w.heap.size w wr) ∧ Hid (PInv s.data.toList t D n r ∧ wr.ownsRow w.heap.size 103 4 (.slice A D.length c) D.length (qrw 0 D)))
      case atStart => exact ⟨i + n0, n0, hw2, by omega, by omega, HA.out, hid H2.out.1, hid ⟨HP.out, H2.out.2⟩⟩
      case round =>
        obtain ⟨t, n, ht, hit, hgt, hblk, HB, HS⟩ := hrel
        have hpl := pinv_len HS.out.1
        have hcell := blk_cell hblk
        have k0 : wr.cell? ⟨w2.heap.size, 0, none⟩ = some (.int .i64 (i : Int)) := by rw [hcell]; rfl
        have k1 : wr.cell? ⟨w2.heap.size, 1, none⟩ = some (.int .i64 (t : Int)) := by rw [hcell]; rfl
        have k2 : wr.cell? ⟨w2.heap.size, 2, none⟩ = some (.int .i32 (r : Int)) := by rw [hcell]; rfl
        have k3 : wr.cell? ⟨w2.heap.size, 3, none⟩ = some (.int .i64 (wid r : Int)) := by rw [hcell]; rfl
        have ybl := lt_of_block hblk
        have ht2 : (t : Int) ≤ 1000000000000000000 := by omega
        have hswr := HB.out.size
        have HK := hid hblk
        clear hcell hblk
        cases hct : isCtl (r : Int) with
        | true =>
          rw [hct] at hCR
          have HR := hid (rinv_shut HS.out.1 (.inl hct))
          clear H2 HA HP
          go_wp2_with fail
          refine (hCR _).mono ?_
          rintro e w3 ⟨rfl, rfl⟩
          go_wp2_with (
            at_builtin
            obtain ⟨i0, hi, hz0, hz1, hz2⟩ := info_parts info_rpiece
            refine append_one Tryz.underlying100 hi hz0 hz1 hz2 rfl (by decide) (by decide) rfl _ _ rfl w.heap.size (.slice A D.length c) D.length (qrw 0 D) wr.heap.size #[.int .i64 (i : Int), .int .i64 (t : Int), .int .i32 (r : Int), .int .i64 (wid r : Int)] 103 rfl rfl (own_below' HS.out.2 ((Below.refl _ _).alloc (Nat.le_refl _) _)) (heap_alloc_new _ _) rfl (by simp [Value.oneCell']) (fun e => by have := own_lt HS.out.2 (Nat.le_refl _) _ e; omega) (by simp; omega) (fun hgt => LetsOut.intro ⟨#[], []⟩ w (Or.inr ⟨rfl, by unfold Great; omega⟩)) (fun v' w4 hown4 hgr4 hne4 => ?_)
            have hb4 : Below w.heap.size w w4 := ((HB.out.alloc (by omega) _).grown hgr4 (by simp; omega) (fun k hk => own_ge HS.out.2 k hk))
            rw [qrw_snoc D i t n r (by omega) (by omega)] at hown4
            obtain ⟨A', c', rfl⟩ := own_shape hown4
            have HN := hid (And.intro HR.out (show w4.ownsRow w.heap.size 103 4 (.slice A' (D ++ [(n, r)]).length c') (D ++ [(n, r)]).length (qrw 0 (D ++ [(n, r)])) by rw [List.length_append]; exact hown4))
            have HB4 := hid hb4
            have hk4 : w4.heap[w2.heap.size]? = some (.cells #[.int .i64 (i : Int), .int .i64 (t : Int), .int .i32 (r : Int), .int .i64 (wid r : Int)] 103 (0, 0)) := by
              rw [hgr4.block _ (by simp; omega) (fun e => HD.out e.symm)]
              exact (Lib.alloc_old _ _ _ ybl).trans HK.out
            have q1 : w4.cell? ⟨w2.heap.size, 1, none⟩ = some (.int .i64 (t : Int)) := by rw [blk_cell hk4]; rfl
            have yq4 := lt_of_block hk4
            clear hk4
            clear hown4 hgr4 hne4 hb4)
          go_roundg (s.size - t)
          case measure => omega
          case rel => exact ⟨t, D ++ [(n, r)], A', c', by simp, rfl, ht, by omega, HB4, HN⟩
        | false =>
          rw [hct] at hCR
          by_cases htl : t < s.size
          · have htl' : t < s.data.toList.length := by rw [hlen]; exact htl
            have hti : (t : Int) < (s.size : Int) := by omega
            have hCO := CO t htl wr
            have hm1 := wd_pos (lft s.data.toList t)
            have hm2 := lft_wd htl'
            rw [hlen] at hm2
            have hCM := fun x => rmark_any (rn (lft s.data.toList t) : Int) x
            have HPK := hid (fun h1 => pinv_keep HS.out.1 htl' h1 hct)
            have HRS := hid (fun h1 => rinv_shut HS.out.1 (.inr (.inr ⟨htl', h1⟩)))
            generalize hm : rn (lft s.data.toList t) = m at *
            generalize hn1 : wd (lft s.data.toList t) = k at *
            clear hm hn1 H2 HA HP
            have hz2 : (t : Int) + (k : Int) ≤ 1000000000000000000 := by omega
            go_wp2_with fail
            refine (hCR _).mono ?_
            rintro e w3 ⟨rfl, rfl⟩
            go_wp2_with fail
            refine hCO.mono ?_
            rintro e w3 ⟨rfl, rfl⟩
            go_wp2_with fail
            refine (hCM _).mono ?_
            rintro e w3 ⟨rfl, hb3⟩
            have hk3 := blk_on' HK.out hb3
            have hs3 := hb3.size
            have HB3 := hid (HB.out.trans (hb3.mono hswr))
            have HO3 := hid (own_below' HS.out.2 hb3)
            have hcell := blk_cell hk3
            have f1 := blk_frozen hk3 1
            have k0 : w3.cell? ⟨w2.heap.size, 0, none⟩ = some (.int .i64 (i : Int)) := by rw [hcell]; rfl
            have k1 : w3.cell? ⟨w2.heap.size, 1, none⟩ = some (.int .i64 (t : Int)) := by rw [hcell]; rfl
            have k2 : w3.cell? ⟨w2.heap.size, 2, none⟩ = some (.int .i32 (r : Int)) := by rw [hcell]; rfl
            have k3 : w3.cell? ⟨w2.heap.size, 3, none⟩ = some (.int .i64 (wid r : Int)) := by rw [hcell]; rfl
            have ybl3 := lt_of_block hk3
            have HK3 := hid hk3
            clear hb3 hk3 hcell
            cases hmk : isMark (m : Int) with
            | true =>
              have HP2 := hid (HPK.out hmk)
              have hsc : (w3.setCell ⟨w2.heap.size, 1, none⟩ (.int .i64 ((t + k : Nat) : Int))).heap[w2.heap.size]? = some (.cells #[.int .i64 (i : Int), .int .i64 ((t + k : Nat) : Int), .int .i32 (r : Int), .int .i64 (wid r : Int)] 103 (0, 0)) := by
                have := heap_setCell_same w3 w2.heap.size 1 _ _ (.int .i64 ((t + k : Nat) : Int)) HK3.out
                simpa using this
              have hbs := HB3.out.setCell (p := ⟨w2.heap.size, 1, none⟩) hbb (.int .i64 ((t + k : Nat) : Int))
              have hos := own_off HO3.out (g := w2.heap.size) (j := 1) (u := .int .i64 ((t + k : Nat) : Int)) HD.out
              have H4 := hid (And.intro hsc (And.intro hbs hos))
              rw [show ((t + k : Nat) : Int) = (t : Int) + (k : Int) by omega] at H4
              clear hsc hbs hos HPK HRS
              go_wp2
              go_roundg (s.size - (t + k))
              case measure => omega
              case rel => exact ⟨t + k, n + k, by omega, by omega, by omega, by rw [show ((t + k : Nat) : Int) = (t : Int) + (k : Int) by omega]; exact H4.out.1, hid H4.out.2.1, hid ⟨HP2.out, H4.out.2.2⟩⟩
            | false =>
              have HR := hid (HRS.out hmk)
              clear HPK HRS
              go_wp2_with (
                at_builtin
                obtain ⟨i0, hi, hz0, hz1, hz2⟩ := info_parts info_rpiece
                refine append_one Tryz.underlying100 hi hz0 hz1 hz2 rfl (by decide) (by decide) rfl _ _ rfl w.heap.size (.slice A D.length c) D.length (qrw 0 D) w3.heap.size #[.int .i64 (i : Int), .int .i64 (t : Int), .int .i32 (r : Int), .int .i64 (wid r : Int)] 103 rfl rfl (own_below' HO3.out ((Below.refl _ _).alloc (Nat.le_refl _) _)) (heap_alloc_new _ _) rfl (by simp [Value.oneCell']) (fun e => by have := own_lt HO3.out (Nat.le_refl _) _ e; omega) (by simp; omega) (fun hgt => LetsOut.intro ⟨#[], []⟩ w (Or.inr ⟨rfl, by unfold Great; omega⟩)) (fun v' w4 hown4 hgr4 hne4 => ?_)
                have hb4 : Below w.heap.size w w4 := ((HB3.out.alloc (by omega) _).grown hgr4 (by simp; omega) (fun k hk => own_ge HO3.out k hk))
                rw [qrw_snoc D i t n r (by omega) (by omega)] at hown4
                obtain ⟨A', c', rfl⟩ := own_shape hown4
                have HN := hid (And.intro HR.out (show w4.ownsRow w.heap.size 103 4 (.slice A' (D ++ [(n, r)]).length c') (D ++ [(n, r)]).length (qrw 0 (D ++ [(n, r)])) by rw [List.length_append]; exact hown4))
                have HB4 := hid hb4
                have hk4 : w4.heap[w2.heap.size]? = some (.cells #[.int .i64 (i : Int), .int .i64 (t : Int), .int .i32 (r : Int), .int .i64 (wid r : Int)] 103 (0, 0)) := by
                  rw [hgr4.block _ (by simp; omega) (fun e => HD.out e.symm)]
                  exact (Lib.alloc_old _ _ _ ybl3).trans HK3.out
                have q1 : w4.cell? ⟨w2.heap.size, 1, none⟩ = some (.int .i64 (t : Int)) := by rw [blk_cell hk4]; rfl
                have yq4 := lt_of_block hk4
                clear hk4
                clear hown4 hgr4 hne4 hb4)
              go_roundg (s.size - t)
              case measure => omega
              case rel => exact ⟨t, D ++ [(n, r)], A', c', by simp, rfl, ht, by omega, HB4, HN⟩
          · have htl' : t = s.data.toList.length := by omega
            have hti : ¬ ((t : Int) < (s.size : Int)) := by omega
            have HR := hid (rinv_shut HS.out.1 (.inr (.inl htl')))
            clear H2 HA HP htl'
            go_wp2_with fail
            refine (hCR _).mono ?_
            rintro e w3 ⟨rfl, rfl⟩
            go_wp2_with (
              at_builtin
              obtain ⟨i0, hi, hz0, hz1, hz2⟩ := info_parts info_rpiece
              refine append_one Tryz.underlying100 hi hz0 hz1 hz2 rfl (by decide) (by decide) rfl _ _ rfl w.heap.size (.slice A D.length c) D.length (qrw 0 D) wr.heap.size #[.int .i64 (i : Int), .int .i64 (t : Int), .int .i32 (r : Int), .int .i64 (wid r : Int)] 103 rfl rfl (own_below' HS.out.2 ((Below.refl _ _).alloc (Nat.le_refl _) _)) (heap_alloc_new _ _) rfl (by simp [Value.oneCell']) (fun e => by have := own_lt HS.out.2 (Nat.le_refl _) _ e; omega) (by simp; omega) (fun hgt => LetsOut.intro ⟨#[], []⟩ w (Or.inr ⟨rfl, by unfold Great; omega⟩)) (fun v' w4 hown4 hgr4 hne4 => ?_)
              have hb4 : Below w.heap.size w w4 := ((HB.out.alloc (by omega) _).grown hgr4 (by simp; omega) (fun k hk => own_ge HS.out.2 k hk))
              rw [qrw_snoc D i t n r (by omega) (by omega)] at hown4
              obtain ⟨A', c', rfl⟩ := own_shape hown4
              have HN := hid (And.intro HR.out (show w4.ownsRow w.heap.size 103 4 (.slice A' (D ++ [(n, r)]).length c') (D ++ [(n, r)]).length (qrw 0 (D ++ [(n, r)])) by rw [List.length_append]; exact hown4))
              have HB4 := hid hb4
              have hk4 : w4.heap[w2.heap.size]? = some (.cells #[.int .i64 (i : Int), .int .i64 (t : Int), .int .i32 (r : Int), .int .i64 (wid r : Int)] 103 (0, 0)) := by
                rw [hgr4.block _ (by simp; omega) (fun e => HD.out e.symm)]
                exact (Lib.alloc_old _ _ _ ybl).trans HK.out
              have q1 : w4.cell? ⟨w2.heap.size, 1, none⟩ = some (.int .i64 (t : Int)) := by rw [blk_cell hk4]; rfl
              have yq4 := lt_of_block hk4
              clear hk4
              clear hown4 hgr4 hne4 hb4)
            go_roundg (s.size - t)
            case measure => omega
            case rel => exact ⟨t, D ++ [(n, r)], A', c', by simp, rfl, ht, by omega, HB4, HN⟩
    · have hli : ¬ ((i : Int) < (s.size : Int)) := by omega
      have hie : i = s.data.toList.length := by omega
      subst hie
      have he := rinv_end HS.out.1
      subst he
      go_wp2
      go_ret
      exact .inl ⟨A, c, rfl, HS.out.2, HB.out⟩
end Go.Proofs.YtcfgpmmclijonaaGreatDoor
