/- Layer 8: TreeNames: the walk. -/
import Derived.Test.YtnkojoajcdhngaaDoorTrAj
namespace Go.Proofs.YtnkojoajcdhngaaDoor
set_option linter.unusedVariables false
set_option linter.unusedSimpArgs false
set_option maxRecDepth 100000
open Go.RowKit Go.Shelf Go.Lib
attribute [local go_sem] Oper.semAt_some
set_option maxRecDepth 100000
set_option maxHeartbeats 16000000

theorem walkTreeNames (w : World) (hT : TabsL w) : Calls Tryd.prog 3 #[] w fun e w' => e = .returned (.bool true) ∧ Below w.heap.size w w' := by
  have HT := hid hT
  have C := alive_any w hT
  clear hT
  go_enter Tryd.func3, Tryd.ntmps3
  go_wp2_with fail
  with_reducible refine C.mono ?_
  rintro e w1 ⟨rfl, hb1⟩
  clear C
  have C : Calls Tryd.prog 11 #[.int .i64 1023] w1 _ := row_at 1023 1024 rfl (by omega) w1
  have HB1 := hid hb1
  clear hb1
  go_wp2_with fail
  with_reducible refine C.mono ?_
  rintro e w2 ⟨A, c, rfl, hS, hb2⟩
  clear C
  obtain ⟨b2, hb⟩ : ∃ b2, w2.heap.size = b2 := ⟨_, rfl⟩
  obtain ⟨W3, hW3⟩ : ∃ W3, w2.alloc (.cells #[.slice A 1024 c] 25) = W3 := ⟨_, rfl⟩
  have hb3 : Below w2.heap.size w2 W3 := by rw [← hW3]; exact (Below.refl _ _).alloc (Nat.le_refl _) _
  have h3 : W3.heap[b2]? = some (.cells #[.slice A 1024 c] 25 (0, 0)) := by
    rw [← hW3, ← hb]
    exact World.alloc_heap_new _ _
  have HB3 := hid (HB1.out.trans ((hb2.trans (hb3.mono hb2.size)).mono HB1.out.size))
  have HS3 := hid (hS.below hb3)
  have H3 := hid h3
  have HW3 := hid hW3
  have HBB := hid hb
  clear hS hb2 hb3 h3 hW3 hb
  go_upto_region 5 with fail
  rw [HBB.out, HW3.out]
  have C := check_own (rowL 1023) 0 1024 (rowL_len _) rowL_1023 (rowL_ok 1023 (by omega)) A c W3 (tabsL_on HT.out HB3.out) HS3.out
  have k3 : W3.cell? ⟨b2, 0, none⟩ = some (.slice A 1024 c) := by rw [blk_cell H3.out]; rfl
  clear HW3
  go_wp2_with fail
  with_reducible refine C.mono ?_
  rintro e w4 ⟨rfl, hb4⟩
  have HB4 := hid (HB3.out.trans (hb4.mono HB3.out.size))
  have HS4 := hid (HS3.out.below hb4)
  have H4 := hid ((hb4.block _ (lt_of_block H3.out)).trans H3.out)
  clear C k3 hb4 HB3 HS3 H3 HBB
  have C : Calls Tryd.prog 11 #[.int .i64 1024] w4 _ := row_at 1024 1025 rfl (by omega) w4
  go_wp2_with fail
  with_reducible refine C.mono ?_
  rintro e w5 ⟨A5, c5, rfl, hS5, hb5⟩
  have HB5 := hid (HB4.out.trans (hb5.mono HB4.out.size))
  have HS5 := hid (HS4.out.below hb5)
  have H5 := hid ((hb5.block _ (lt_of_block H4.out)).trans H4.out)
  clear C HB4 HS4 H4
  have C := check_own (rowL 1024) 6 1025 (rowL_len _) rowL_many (rowL_ok 1024 (by omega)) A5 c5 w5 (tabsL_on HT.out HB5.out) hS5
  clear hb5 hS5
  go_wp2_with fail
  with_reducible refine C.mono ?_
  rintro e w6 ⟨rfl, hb6⟩
  have HB6 := hid (HB5.out.trans (hb6.mono HB5.out.size))
  have HS6 := hid (HS5.out.below hb6)
  have H6 := hid ((hb6.block _ (lt_of_block H5.out)).trans H5.out)
  clear C hb6 HB5 HS5 H5
  have C : Calls Tryd.prog 13 #[.int .i64 64] w6 _ := deep_at 64 (by omega) w6
  go_wp2_with fail
  with_reducible refine C.mono ?_
  rintro e w7 ⟨A7, c7, rfl, hS7, hb7⟩
  have HB7 := hid (HB6.out.trans (hb7.mono HB6.out.size))
  have HS7 := hid (HS6.out.below hb7)
  have H7 := hid ((hb7.block _ (lt_of_block H6.out)).trans H6.out)
  clear C HB6 HS6 H6
  have C := check_own (deepL 64) 0 64 (deepL_len _) deepL_64 (deepL_ok 64) A7 c7 w7 (tabsL_on HT.out HB7.out) hS7
  clear hb7 hS7
  go_wp2_with fail
  with_reducible refine C.mono ?_
  rintro e w8 ⟨rfl, hb8⟩
  have HB8 := hid (HB7.out.trans (hb8.mono HB7.out.size))
  have HS8 := hid (HS7.out.below hb8)
  have H8 := hid ((hb8.block _ (lt_of_block H7.out)).trans H7.out)
  clear C hb8 HB7 HS7 H7
  have C : Calls Tryd.prog 13 #[.int .i64 65] w8 _ := deep_at 65 (by omega) w8
  go_wp2_with fail
  with_reducible refine C.mono ?_
  rintro e w9 ⟨A9, c9, rfl, hS9, hb9⟩
  have HB9 := hid (HB8.out.trans (hb9.mono HB8.out.size))
  have HS9 := hid (HS8.out.below hb9)
  have H9 := hid ((hb9.block _ (lt_of_block H8.out)).trans H8.out)
  clear C HB8 HS8 H8
  have C := check_own (deepL 65) 6 65 (deepL_len _) deepL_65 (deepL_ok 65) A9 c9 w9 (tabsL_on HT.out HB9.out) hS9
  clear hb9 hS9
  go_wp2_with fail
  with_reducible refine C.mono ?_
  rintro e wa ⟨rfl, hba⟩
  have HBa := hid (HB9.out.trans (hba.mono HB9.out.size))
  have HSa := hid (HS9.out.below hba)
  have Ha := hid ((hba.block _ (lt_of_block H9.out)).trans H9.out)
  clear C hba HB9 HS9 H9
  go_upto_region 9 with fail
  go_cut [7, 8] from 29 to 34 (fun v7 v8 wx => v8 = .int .i64 4 ∧ Hid (Below w.heap.size w wx))
  case first =>
    have kb : wa.cell? ⟨b2, 0, none⟩ = some (.slice A 1024 c) := by rw [blk_cell Ha.out]; rfl
    have lb := lt_of_block Ha.out
    have HC : ∀ V, Calls Tryd.prog 11 #[.int .i64 0] V _ := fun V => row_at 0 1 rfl (by omega) V
    have HP : ∀ V b Ar cr, Below wa.heap.size wa V → SpecO b V Ar cr (rowL 0) → Calls Tryd.prog 14 #[.agg #[.slice A 1024 c], .int .i64 0, .int .i64 0, .agg #[.slice Ar 1 cr]] V _ := fun V b Ar cr hb hS =>
      put_own (rowL 1023) (rowL 0) 0 0 4 1024 1 (rowL_len _) (rowL_len _) put_many (rowL_ok 1023 (by omega)) (rowL_ok 0 (by omega)) (by omega) (by omega) A Ar c cr V (tabsL_on HT.out (HBa.out.trans (hb.mono HBa.out.size))) (HSa.out.below hb) hS
    have HC := hid HC
    have HP := hid HP
    have hd0 : Below wa.heap.size wa wa.drew := (Below.refl _ _).drew
    have hd1 : Below wa.heap.size wa (wa.alloc (.cells #[.slice none 0 0] 25)).drew := ((Below.refl _ _).alloc (Nat.le_refl _) _).drew
    have ka : (wa.alloc (.cells #[.slice none 0 0] 25)).drew.cell? ⟨b2, 0, none⟩ = some (.slice A 1024 c) := (hd1.cell lb).trans kb
    have KN : ∀ wr, Below (wa.alloc (.cells #[.slice none 0 0] 25)).drew.heap.size (wa.alloc (.cells #[.slice none 0 0] 25)).drew wr → Box1 wr wa.heap.size (.slice none 0 0) := fun wr h =>
      Box1.below (show Box1 (wa.alloc (.cells #[.slice none 0 0] 25)).drew wa.heap.size (.slice none 0 0) from Box1.of_heap (t := 25) (show (wa.alloc (.cells #[.slice none 0 0] 25)).drew.heap[wa.heap.size]? = _ from World.alloc_heap_new wa (.cells #[.slice none 0 0] 25))) h (by show wa.heap.size < (wa.alloc (.cells #[.slice none 0 0] 25)).heap.size; simp)
    have hmx := mixed
    go_region_held3 (fun wz => wz.cell? ⟨b2, 0, none⟩ = some (.slice A 1024 c)) (first | assumption | exact kPa _ | exact kS _ _ (by omega) | (simp [*] ; done)) (first
      | (go_at_call 11; with_reducible refine (HC.out _).mono ?_; rintro r wr ⟨Ar, cr, rfl, hSr, hbr⟩; have hbW : Below wa.heap.size wa wr := (by first | exact hd0.trans (hbr.mono hd0.size) | exact hd1.trans (hbr.mono hd1.size)); (try have kn := KN wr hbr); have hW0 : Below wr.heap.size wr wr := Below.refl _ _; have hW1 : Below wr.heap.size wr (wr.alloc (.cells #[.slice none 0 0] 25)) := ((Below.refl _ _).alloc (Nat.le_refl _) _); have kW : wr.cell? ⟨b2, 0, none⟩ = some (.slice A 1024 c) := (hbW.cell lb).trans kb; have kWa : (wr.alloc (.cells #[.slice none 0 0] 25)).cell? ⟨b2, 0, none⟩ = some (.slice A 1024 c) := (hW1.cell (by have := hbW.size; show b2 < wr.heap.size; omega)).trans kW; clear hbr)
      | (go_at_call 14; with_reducible refine (HP.out _ _ _ _ (by first | exact hbW.trans (hW0.mono hbW.size) | exact hbW.trans (hW1.mono hbW.size)) (by first | exact hSr.below hW0 | exact hSr.below hW1)).mono ?_; rintro r wp ⟨A3, c3, rfl, hbp⟩; have hbP : Below wa.heap.size wa wp := (by first | exact hbW.trans (hbp.mono hbW.size) | exact (hbW.trans (hW1.mono hbW.size)).trans (hbp.mono (by have := hbW.size; simp; omega))); (try obtain ⟨q1, q2⟩ := kn.below hbp kn.lt); (try obtain ⟨q1, q2⟩ := (Box1.of_heap (World.alloc_heap_new wr (.cells #[.slice none 0 0] 25))).below hbp (by show wr.heap.size < (wr.alloc (.cells #[.slice none 0 0] 25)).heap.size; simp)); have lP := hbP.size; have lR := hbp.size; have lw := hbW.size; have kP : wp.cell? ⟨b2, 0, none⟩ = some (.slice A 1024 c) := (hbP.cell lb).trans kb; have kPa : ∀ o, (wp.alloc o).cell? ⟨b2, 0, none⟩ = some (.slice A 1024 c) := (fun o => (((Below.refl _ _).alloc (Nat.le_refl _) o).cell (by show b2 < wp.heap.size; omega)).trans kP); have kS : ∀ k u, wa.heap.size ≤ k → (wp.setCell ⟨k, 0, none⟩ u).cell? ⟨b2, 0, none⟩ = some (.slice A 1024 c) := (fun k u hk => (World.cell?_of_block (heap_setCell_other wp ⟨k, 0, none⟩ b2 u (by show b2 ≠ k; omega))).trans kP); clear hbp))
    all_goals
      have hz := HBa.out.size
      have hq := HBa.out.trans (hbP.mono hz)
      go_wp2_with fail
      go_meet
      first
        | exact ⟨rfl, hid (hq.alloc (by omega) _)⟩
        | exact ⟨rfl, hid (hq.setCell (p := ⟨wr.heap.size, 0, none⟩) (by show w.heap.size ≤ wr.heap.size; omega) _)⟩
        | exact ⟨rfl, hid (hq.setCell (p := ⟨wa.heap.size, 0, none⟩) (by show w.heap.size ≤ wa.heap.size; omega) _)⟩
  case rest =>
  obtain ⟨rfl, HBc⟩ := hcut
  clear HBa HSa Ha
  have C : Calls Tryd.prog 13 #[.int .i64 64] wc _ := deep_at 64 (by omega) wc
  go_wp2_with fail
  with_reducible refine C.mono ?_
  rintro e wd ⟨Ad, cd, rfl, hSd, hbd⟩
  have HBd := hid (HBc.out.trans (hbd.mono HBc.out.size))
  clear C HBc
  have C : Calls Tryd.prog 11 #[.int .i64 0] wd _ := row_at 0 1 rfl (by omega) wd
  have HSd := hid hSd
  clear hSd hbd
  go_wp2_with fail
  with_reducible refine C.mono ?_
  rintro e we ⟨Ae, ce, rfl, hSe, hbe⟩
  have HBe := hid (HBd.out.trans (hbe.mono HBd.out.size))
  have C := put_own (deepL 64) (rowL 0) 63 0 6 64 1 (deepL_len _) (rowL_len _) put_deep (deepL_ok 64) (rowL_ok 0 (by omega)) (by omega) (by omega) Ad Ae cd ce we (tabsL_on HT.out HBe.out) (HSd.out.below hbe) hSe
  clear hSe hbe HSd HBd
  go_wp2_with fail
  with_reducible refine C.mono ?_
  rintro e wf ⟨Af, cf, rfl, hbf⟩
  have HBf := hid ((HBe.out.trans (hbf.mono HBe.out.size)).alloc (by have := HBe.out.size; have := hbf.size; omega) (.cells #[.slice Af 0 cf] 25))
  clear C HBe hbf
  go_upto_region 11 with fail
  generalize wf.alloc (.cells #[.slice Af 0 cf] 25) = wg at *
  have HW64 := hid (fun V : World => (show Calls Tryd.prog 15 #[.int .i64 64] V _ from word_any 64 (by omega) V))
  have HW65 := hid (fun V : World => (show Calls Tryd.prog 15 #[.int .i64 65536] V _ from word_any 65536 (by omega) V))
  refine region_mono 9 [[], [], [], [], [], [], [], [0, 1, 2, 3, 4, 5, 6], []] (pick [IsV (.string (wdB 64)), IsV (.string (wdB 64)), IsV (.string (wdB 65536)), IsV (.agg #[.int .i64 16384, .int .i64 16384]), IsV (.agg #[.int .i64 16384, .int .i64 16384]), IsV (.agg #[.int .i64 1048576, .int .i64 1048576]), WrV wg.heap.size, NdV wg.heap.size, PtV wg.heap.size #[.int .u8 0, .string { data := #[] }, .string { data := #[] }, .string { data := #[] }, .int .i64 0, .int .i64 0, .int .i64 0, .int .i64 0, .int .i64 0, .int .i64 0, .bool false, .int .i64 0, .int .i64 0, .int .i64 0, .int .i64 0, .int .i64 0, .bool false, .slice none 0 0, .slice none 0 0] 39]) mixed (by kernel_rfl) (pick_stable ?_) ?_ ?_
  · simp [IsV.stable, WrV.stable, NdV.stable, PtV.stable]
  · simp only [List.take_succ_cons, List.take_zero, MonoObs, DepAll, dsOf, List.map_cons, List.map_nil]
    refine ⟨?_, ?_, ?_, ?_, ?_, ?_, ?_, ?_, ?_, trivial⟩
    case' refine_8 =>
      intro w1 hw1 v0 h0 v1 h1 v2 h2 v3 h3 v4 h4 v5 h5 v6 h6
      simp only [pick, IsV, List.getD_cons_succ, List.getD_cons_zero] at h0 h1 h2 h3 h4 h5 h6
      subst h0 h1 h2 h3 h4 h5
      obtain ⟨g, rfl, hr⟩ := h6
    all_goals simp [go_sem, upon1, pick, IsV, mk16]
    case refine_1 => exact fun w1 _ => below_up (HW64.out w1)
    case refine_2 => exact fun w1 _ => below_up (HW64.out w1)
    case refine_3 => exact fun w1 _ => below_up (HW65.out w1)
    case refine_4 => exact fun w1 _ => Below.refl _ _
    case refine_5 => exact fun w1 _ => Below.refl _ _
    case refine_6 => exact fun w1 _ => Below.refl _ _
    case refine_7 => exact fun w1 hw => ⟨⟨w1.heap.size, rfl, hw.size, World.alloc_heap_new _ _⟩, (Below.refl _ _).alloc (Nat.le_refl _) _⟩
    case refine_8 => exact ⟨⟨g, rfl, hr⟩, Below.refl _ _⟩
    case refine_9 => exact fun w1 hw => ⟨⟨w1.heap.size, rfl, hw.size, World.alloc_heap_new _ _⟩, (Below.refl _ _).alloc (Nat.le_refl _) _⟩
  · intro wh hbh
    simp only [show List.range 9 = [0, 1, 2, 3, 4, 5, 6, 7, 8] from rfl, DepAll, dsOf, List.map_cons, List.map_nil, List.take_succ_cons, List.take_zero]
    rintro _ rfl _ rfl _ rfl _ rfl _ rfl _ rfl v6 _ v7 ⟨g, rfl, hr⟩ v8 ⟨b, rfl, hbb, h8⟩
    simp only [List.getD_cons_succ, List.getD_cons_zero, List.drop_succ_cons, List.drop_zero]
    simp only [Act.put, Option.getD_some, List.setIfInBounds_toArray, List.set_cons_zero, List.set_cons_succ]
    have HBh := hid (HBf.out.trans (hbh.mono HBf.out.size))
    have HBX := hid (And.intro hbb (And.intro h8 hr))
    have hsf := HBf.out.size
    obtain ⟨ct, hct⟩ : ∃ ct, ndC ndT (.slice (some ⟨g, 0, none⟩) 16 16) (.slice none 0 0) = ct := ⟨_, rfl⟩
    have hlt : ct.length = 19 := by rw [← hct]; rfl
    have h1t : ct.toArray.all (·.oneCell') = true := by rw [← hct]; exact ndC_one _
    have HS0 := hid (NmS.start hct HBh.out hsf hbb h8 hr)
    have HCT := hid hct
    obtain ⟨B, hB⟩ : ∃ B, wg.heap.size = B := ⟨_, rfl⟩
    obtain ⟨zc, hzc⟩ : ∃ zc : Array Value, #[.int .u8 0, .string { data := #[] }, .string { data := #[] }, .string { data := #[] }, .int .i64 0, .int .i64 0, .int .i64 0, .int .i64 0, .int .i64 0, .int .i64 0, .bool false, .int .i64 0, .int .i64 0, .int .i64 0, .int .i64 0, .int .i64 0, .bool false, .slice none 0 0, .slice none 0 0] = zc := ⟨_, rfl⟩
    have hzs : zc.size = ct.toArray.size := (congrArg Array.size hzc.symm).trans ((rfl : _ = 19).trans (List.size_toArray.trans hlt).symm)
    have hsz : (Tryd.prog.info? 39).map (·.size) = some ct.toArray.size := by rw [List.size_toArray, hlt]; exact info_node
    have hBw : w.heap.size ≤ B := by rw [← hB]; exact hsf
    have hBg : B ≤ g := by rw [← hB]; exact hr.1
    have hBb : B ≤ b := by rw [← hB]; exact hbb
    have hgb : ¬ g = b := fun e => by
      have h := hr.2
      rw [e, h8] at h
      injection h with h
      injection h with _ h _
      cases h
    rw [hzc] at h8
    have H8 := hid h8
    rw [hB] at HS0
    rw [hct]
    have HGB := hid hgb
    clear hbh hr hbb h8 HBf HW64 HW65 HBX HBh hsf hct hB hzc hgb
    go_upto_region 12 with (first
      | (refine wpList_store_row rfl 39 (.tmp 11) (.tmp 48) rfl b ct.toArray rfl rfl 39 zc H8.out hsz hzs h1t ?_))
    generalize wh.setRow b ct.toArray = wi at *
    clear H8 hsz hzs
    go_wp2_with fail
    go_loopg [12] 16 (fun gh v12 wr => ∃ k : Nat, v12 = .int .i64 k ∧ k ≤ 16 ∧ 16 - k ≤ gh ∧ Hid (NmS w B g b k wr))
    case atStart => exact ⟨0, rfl, by omega, by omega, HS0⟩
    case round =>
      obtain ⟨k, rfl, hk, hgk, HX⟩ := hrel
      have c17 := HX.out.1.cells.2.2.2.2.2.2.2.2.2.2.2.2.2.2.2.2.2.1
      by_cases hlt16 : k < 16
      · have hli : (k : Int) < 16 := by omega
        have HT2 := hid (own_there HX.out.2.2 (k * 4) 4 (by omega))
        have ow : (wr.setCells g (k * 4) [.int .u8 3, .int .u16 0, .int .i64 0, .string { data := #[] }]).ownsRow _ _ _ _ _ _ := own_wrap HX.out.2.2 k padW
        rw [padR_set 16 k hlt16] at ow
        have hbb := below_setCells (show w.heap.size ≤ g by omega) [.int .u8 3, .int .u16 0, .int .i64 0, .string { data := #[] }] (k * 4) wr HX.out.2.1
        have hgb := HGB.out
        have h0 : (wr.setCells g (k * 4) [.int .u8 3, .int .u16 0, .int .i64 0, .string { data := #[] }]).heap[b]? = _ := (store_off (i := k * 4 + 3) (store_off (i := k * 4 + 2) (store_off (i := k * 4 + 1) (store_off (i := k * 4) HX.out.1 (show b ≠ g by omega)) (show b ≠ g by omega)) (show b ≠ g by omega)) (show b ≠ g by omega))
        have HX2 := hid (show NmS w B g b (k + 1) _ from ⟨h0, hbb, ow⟩)
        clear h0 hbb ow HX hgb
        go_wp2_with (refine wpList_store_mid (P := Tryd.prog) rfl 42 (.tmp 57) (.tmp 56) rfl g (k * 4) #[.int .u8 3, .int .u16 0, .int .i64 0, .string { data := #[] }] (by kernel_rfl) (by kernel_rfl) HT2.out sz_wrap (by kernel_rfl) ?_; clear HT2; generalize wr.setCells g (k * 4) (#[.int .u8 3, .int .u16 0, .int .i64 0, .string { data := #[] }] : Array Value).toList = wn at *)
        go_roundg (16 - (k + 1))
        case measure => omega
        case rel => exact ⟨k + 1, by go_num, by omega, by omega, HX2⟩
      · have hli : ¬ ((k : Int) < 16) := by omega
        obtain rfl : k = 16 := by omega
        clear hk hgk hlt16 c17 HS0
        have hp16 : padR 16 16 = ndT.wraps := by simp [padR, ndT]
        have how := HX.out.2.2
        rw [hp16] at how
        have hn := HX.out.1
        unfold NBox at hn
        rw [HCT.out] at hn
        have HM := hid hn
        have HOW := hid how
        have HBX := hid HX.out.2.1
        have hlb := lt_of_block hn
        have hfo := fold_node ct hlt
        have HFO := hid hfo
        clear HX hn how hfo hp16
        have hso := spec_one (W := wr) ndT (.slice (some ⟨g, 0, none⟩) 16 16) rfl HOW.out (show B ≤ wr.heap.size by omega)
        rw [HCT.out] at hso
        have hba : Below wr.heap.size wr (wr.alloc (.cells ct.toArray 39)) := (Below.refl _ _).alloc (Nat.le_refl _) _
        have HSO := hid hso
        have HBA := hid hba
        clear hso hba
        go_wp2_with (first | (refine load_box rfl (.tmp 11) rfl b rfl ct hlt HM.out ?_))
        rw [HFO.out]
        have C := check_own [ndT] 0 1 rfl ndT_chk (fun n hn => by rw [List.mem_singleton.1 hn]; exact ndT_ok) (some ⟨wr.heap.size, 0, none⟩) 1 (wr.alloc (.cells ct.toArray 39)) (tabsL_on HT.out (HBX.out.trans (HBA.out.mono HBX.out.size))) HSO.out
        with_reducible refine C.mono ?_
        rintro e wk ⟨rfl, hbk⟩
        have HBK := hid (HBA.out.trans (hbk.mono HBA.out.size))
        clear C hbk HBA HSO
        have hws := HBX.out.size
        have HNK := hid ((HBK.out.block b hlb).trans HM.out)
        have HOK := hid (own_below' HOW.out HBK.out)
        have HBL := hid (HBX.out.trans (HBK.out.mono hws))
        have hks := HBK.out.size
        have hlk := lt_of_block HNK.out
        clear HM HOW HBX HBK hlb
        obtain ⟨nk, hnk⟩ : ∃ nk, wk.heap.size = nk := ⟨_, rfl⟩
        go_upto_region 20 with fail
        refine (show Code.wp _ _ _ _ (allocs wk (namesO nk)) from ?_)
        have hb2 := allocs_below (namesO nk) wk
        have g0 := allocs_get (namesO nk) wk 0 _ rfl
        have g1 := allocs_get (namesO nk) wk 1 _ rfl
        have g2 := allocs_get (namesO nk) wk 2 _ rfl
        have g3 := allocs_get (namesO nk) wk 3 _ rfl
        have g4 := allocs_get (namesO nk) wk 4 _ rfl
        have g5 := allocs_get (namesO nk) wk 5 _ rfl
        have g6 := allocs_get (namesO nk) wk 6 _ rfl
        obtain ⟨W2, hW2⟩ : ∃ W2, allocs wk (namesO nk) = W2 := ⟨_, rfl⟩
        rw [hW2] at hb2 g0 g1 g2 g3 g4 g5 g6
        rw [hnk] at g0 g1 g2 g3 g4 g5 g6
        rw [hW2]
        have hND := names_nds g0 g1 g2 g4 g5
        have k13 : W2.cell? ⟨nk + 1 + 1 + 1, 0, none⟩ = some (.slice (some ⟨nk + 1 + 1, 0, none⟩) 3 3) := by rw [show W2.cell? ⟨nk + 1 + 1 + 1, 0, none⟩ = _ from blk_cell g3 0]; rfl
        have k14 : W2.cell? ⟨nk + 1 + 1 + 1 + 1 + 1 + 1, 0, none⟩ = some (.slice (some ⟨nk + 1 + 1 + 1 + 1 + 1, 0, none⟩) 2 2) := by rw [show W2.cell? ⟨nk + 1 + 1 + 1 + 1 + 1 + 1, 0, none⟩ = _ from blk_cell g6 0]; rfl
        have hbB : Below w.heap.size w W2 := HBL.out.trans (hb2.mono (by omega))
        have hNK2 := (hb2.block b hlk).trans HNK.out
        have hOK2 := own_below' HOK.out hb2
        have C := check_nds twoL 6 3 rfl two_chk two_ok (some ⟨nk + 1 + 1, 0, none⟩) 3 W2 (tabsL_on HT.out hbB) hND.1
        have HND2 := hid hND.2
        have HK14 := hid k14
        have HBL2 := hid hbB
        have HNK2 := hid hNK2
        have HOK2 := hid hOK2
        have l14 := lt_of_block g6
        clear HNK HOK HBL hb2 g0 g1 g2 g3 g4 g5 g6 hW2 hND k14 hbB hNK2 hOK2
        go_wp2_with fail
        with_reducible refine C.mono ?_
        rintro e wl ⟨rfl, hbl⟩
        have hwl := HBL2.out.size
        have HBL3 := hid (HBL2.out.trans (hbl.mono hwl))
        have k14 := (hbl.cell (p := ⟨nk + 1 + 1 + 1 + 1 + 1 + 1, 0, none⟩) l14).trans HK14.out
        have C := check_nds twiceL 6 2 rfl twice_chk twice_ok (some ⟨nk + 1 + 1 + 1 + 1 + 1, 0, none⟩) 2 wl (tabsL_on HT.out HBL3.out) ((HND2.out.below hbl).mono hbl.size)
        have HNK3 := hid ((hbl.block b (lt_of_block HNK2.out)).trans HNK2.out)
        have HOK3 := hid (own_below' HOK2.out hbl)
        clear HNK2 HOK2 HBL2 HND2 HK14 hbl k13
        go_wp2_with fail
        with_reducible refine C.mono ?_
        rintro e wm ⟨rfl, hbm⟩
        have HS1 := hid (show wm.heap[b]? = some (.cells ct.toArray 39 (0, 0)) ∧ Below w.heap.size w wm ∧ wm.ownsRow B 42 4 (.slice (some ⟨g, 0, none⟩) 16 16) 16 (wrs ndT.wraps) from ⟨(hbm.block b (lt_of_block HNK3.out)).trans HNK3.out, HBL3.out.trans (hbm.mono HBL3.out.size), own_below' HOK3.out hbm⟩)
        clear HNK3 HOK3 HBL3 hbm C k14
        go_wp2_with fail
        go_loopg [15] 20 (fun gh v15 wr => ∃ k : Nat, v15 = .int .i64 k ∧ k ≤ 20 ∧ 20 - k ≤ gh ∧ Hid (wr.heap[b]? = some (.cells ct.toArray 39 (0, 0)) ∧ Below w.heap.size w wr ∧ wr.ownsRow B 42 4 (.slice (some ⟨g, 0, none⟩) 16 16) 16 (wrs ndT.wraps)))
        case atStart => exact ⟨0, rfl, by omega, by omega, HS1⟩
        case round =>
          obtain ⟨k, rfl, hk, hgk, HX⟩ := hrel
          by_cases hlt20 : k < 20
          · have hli2 : (k : Int) < 20 := by omega
            have C := bey_any ndT (some ⟨g, 0, none⟩) none 16 16 0 0 wr ct HCT.out k hlt20
            go_wp2_with (first | (refine load_box rfl (.tmp 11) rfl b rfl ct hlt HX.out.1 ?_))
            with_reducible refine C.mono ?_
            rintro e we2 ⟨vw', rfl, hbe2, hown⟩
            clear C
            have hxs := HX.out.2.1.size
            have hes := hbe2.size
            have HX2 := hid (show we2.heap[b]? = some (.cells ct.toArray 39 (0, 0)) ∧ Below w.heap.size w we2 ∧ we2.ownsRow B 42 4 (.slice (some ⟨g, 0, none⟩) 16 16) 16 (wrs ndT.wraps) from ⟨(hbe2.block b (lt_of_block HX.out.1)).trans HX.out.1, HX.out.2.1.trans (hbe2.mono hxs), own_below' HX.out.2.2 hbe2⟩)
            have how : ∃ base, base ≤ we2.heap.size ∧ we2.ownsRow base 42 4 vw' (byN ndT k).wraps.length (wrs (byN ndT k).wraps) := by
              rcases hown with ⟨rfl, e⟩ | h
              · rw [e]
                exact ⟨B, by have := lt_of_block HX2.out.1; omega, HX2.out.2.2⟩
              · exact ⟨_, hes, h⟩
            obtain ⟨base, hbase, how⟩ := how
            obtain ⟨A8, c8, rfl⟩ := own_shape how
            obtain ⟨c3, hc3⟩ : ∃ c3, ndC (byN ndT k) (.slice A8 (byN ndT k).wraps.length c8) (.slice none 0 0) = c3 := ⟨_, rfl⟩
            have hl3 : c3.length = 19 := by rw [← hc3]; rfl
            have h13 : c3.toArray.all (·.oneCell') = true := by rw [← hc3]; exact ndC_one _
            have hz1 : (Tryd.prog.info? 39).map (·.size) = some c3.toArray.size := by rw [List.size_toArray, hl3]; exact info_node
            have hz3 : (#[.int .u8 0, .string { data := #[] }, .string { data := #[] }, .string { data := #[] }, .int .i64 0, .int .i64 0, .int .i64 0, .int .i64 0, .int .i64 0, .int .i64 0, .bool false, .int .i64 0, .int .i64 0, .int .i64 0, .int .i64 0, .int .i64 0, .bool false, .slice none 0 0, .slice none 0 0] : Array Value).size = c3.toArray.size := (rfl : _ = 19).trans (List.size_toArray.trans hl3).symm
            have HC3 := hid hc3
            have HOW := hid how
            have HH := hid (And.intro h13 (And.intro hz1 hz3))
            rw [hc3]
            clear hown how hc3 HX hbe2 h13 hz1 hz3
            go_upto_region 26 with (first
              | (refine wpList_store_row rfl 39 (.tmp 16) (.tmp 113) rfl we2.heap.size c3.toArray rfl rfl 39 _ (World.alloc_heap_new _ _) HH.out.2.1 HH.out.2.2 HH.out.1 ?_))
            rw [World.setRow_alloc_new]
            obtain ⟨V, hV⟩ : ∃ V, we2.alloc (.cells c3.toArray 39) = V := ⟨_, rfl⟩
            rw [hV]
            have hbV : Below we2.heap.size we2 V := by rw [← hV]; exact (Below.refl _ _).alloc (Nat.le_refl _) _
            have hnV : V.heap[we2.heap.size]? = some (.cells c3.toArray 39 (0, 0)) := by rw [← hV]; exact World.alloc_heap_new _ _
            have hso := spec_one (W := V) (byN ndT k) (.slice A8 (byN ndT k).wraps.length c8) (byN_kids k) (own_below' HOW.out hbV) (by have := hbV.size; omega)
            rw [HC3.out] at hso
            have hbV2 : Below V.heap.size V (V.alloc (.cells c3.toArray 39)) := (Below.refl _ _).alloc (Nat.le_refl _) _
            have hbVV := hbV.trans (hbV2.mono hbV.size)
            have hx3 := HX2.out.2.1.size
            have C := check_own [byN ndT k] 6 1 rfl (byN_chk k hlt20) (fun n hn => by rw [List.mem_singleton.1 hn]; exact byN_ok k) (some ⟨V.heap.size, 0, none⟩) 1 (V.alloc (.cells c3.toArray 39)) (tabsL_on HT.out (HX2.out.2.1.trans (hbVV.mono hx3))) hso
            have hfo := fold_node c3 hl3
            have HFO2 := hid hfo
            have HNV := hid hnV
            have HBVV := hid hbVV
            clear hV hbV hnV hso hbV2 hbVV hfo HC3 HOW HH
            go_wp2_with (first | (refine load_box rfl (.tmp 16) rfl we2.heap.size rfl c3 hl3 HNV.out ?_))
            rw [HFO2.out]
            with_reducible refine C.mono ?_
            rintro e wz ⟨rfl, hbz⟩
            have hbz2 := HBVV.out.trans (hbz.mono HBVV.out.size)
            have HX5 := hid (show wz.heap[b]? = some (.cells ct.toArray 39 (0, 0)) ∧ Below w.heap.size w wz ∧ wz.ownsRow B 42 4 (.slice (some ⟨g, 0, none⟩) 16 16) 16 (wrs ndT.wraps) from ⟨(hbz2.block b (lt_of_block HX2.out.1)).trans HX2.out.1, HX2.out.2.1.trans (hbz2.mono hx3), own_below' HX2.out.2.2 hbz2⟩)
            clear C hbz hbz2 HX2 HBVV HNV HFO2
            go_wp2_with fail
            go_roundg (20 - (k + 1))
            case measure => omega
            case rel => exact ⟨k + 1, by go_num, by omega, by omega, HX5⟩
          · have hli2 : ¬ (k : Int) < 20 := by omega
            go_wp2_with fail
            refine bodyPost_ret (v := .bool true) (by simp [results, Tryd.results3, go_sem, *]) rfl ⟨rfl, HX.out.2.1⟩
end Go.Proofs.YtnkojoajcdhngaaDoor
