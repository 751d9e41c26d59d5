/- Layer 25, the reference: Key, of whatever key that may be and is no undo and no redo. -/
import Derived.Test.YtcfgpmmclijonaaGreatDoorErC
import Derived.Test.YtcfgpmmclijonaaGreatDoorErB
import Derived.Test.YtcfgpmmclijonaaGreatDoorEdSh
namespace Go.Proofs.YtcfgpmmclijonaaGreatDoor
set_option linter.unusedVariables false
set_option linter.unusedSimpArgs false
set_option maxRecDepth 100000
open Go.RowKit Go.Shelf Go.Lib
set_option maxRecDepth 100000
set_option maxHeartbeats 16000000

theorem rKey_any {w : World} {base g : Nat} {b : ByteArray} {x y : Nat} {Bs Os : List Stp} {Bk On : Value} (hT : Tabs w) (h : RdS w base g b x y Bs Os Bk On) (hbase : base ≤ g) (hb : b.size ≤ 65536) (hx : x ≤ b.size) (hy : y ≤ b.size) (hk : Bs.length ≤ 256) (s : ByteArray) (md : Nat) (hm : mayB ⟨s.data.toList, md⟩ = true)
    (hz : (decide (s = ⟨#[122]⟩) && decide (md = 2)) = false) (hyz : ((decide (s = ⟨#[121]⟩) && decide (md = 2)) || (decide (s = ⟨#[122]⟩) && decide (md = 3))) = false) :
    Calls Tryz.prog 10 #[.pointer (some ⟨g, 0, none⟩), .agg #[.string s, .int .u8 (md : Int)]] w (RKP w base g b x y Bs Os Bk On (keyE b x y s md)) := by
  have hnm := nm_len (l := s.data.toList) (by
    unfold mayB at hm
    rw [Bool.and_eq_true] at hm
    exact hm.2)
  rw [ba_len] at hnm
  have hs0 : s.size ≠ 0 := fun e => by
    have h0 : s.data.toList = [] := List.eq_nil_of_length_eq_zero (by rw [ba_len]; exact e)
    rw [h0] at hm
    unfold mayB at hm
    rw [Bool.and_eq_true] at hm
    exact absurd hm.2 (show ¬ nmB [] = true by decide +kernel)
  have hmd : md < 8 := by
    unfold mayB at hm
    rw [Bool.and_eq_true] at hm
    have hq : md ≤ 7 := of_decide_eq_true hm.1
    omega
  have md_b := md_bits ⟨md, hmd⟩
  simp only at md_b
  have hsh : (bits .and .u8 (md : Int) 1 == 0) = !shiftB md := by
    have := md_b.2.2.2.1
    rw [← this]
    unfold bne
    rw [Bool.not_not]
  obtain ⟨W, hW⟩ : ∃ W, w.alloc (.cells #[.string s, .int .u8 (md : Int)] 32) = W := ⟨_, rfl⟩
  have hB : Below w.heap.size w W := by
    rw [← hW]
    exact (Below.refl _ _).alloc (Nat.le_refl _) _
  have hs1 : W.heap.size = w.heap.size + 1 := by rw [← hW]; simp
  have n1 : W.heap[w.heap.size]? = some (.cells #[.string s, .int .u8 (md : Int)] 32 (0, 0)) := by
    rw [← hW]
    exact World.alloc_heap_new _ _
  have C := rmay_any s md W (tabs_on hT hB) (by omega)
  rw [hm] at C
  have lg := h.at_.lt
  have HF0 := hid (show ¬ RFoot g Bk On w.heap.size from fun hf => Nat.lt_irrefl _ (h.foot hf))
  have HFt := hid (show ∀ k, w.heap.size ≤ k → ¬ RFoot g Bk On k from fun k hk hf => Nat.lt_irrefl _ (Nat.lt_of_lt_of_le (h.foot hf) hk))
  have HN0 := hid (show g < w.heap.size from lg)
  have HA := hid (show goesE b x y s (altB md) (ctrlB md) (!shiftB md && !ctrlB md) = none → keyE b x y s md = _ from fun hG => by
    unfold keyE
    rw [hG])
  have HTw := hid hT
  have HT := hid (tabs_on hT hB)
  have HW := hid hW
  have HE := hid (h.on hB)
  have N1 := hid n1
  have HB := hid hB
  clear h hT hW n1 hB
  go_enter Tryz.func10, Tryz.ntmps10
  go_wp2_with fail
  rw [HW.out]
  have k0 : W.cell? ⟨w.heap.size, 0, none⟩ = some (.string s) := by rw [blk_cell N1.out]; rfl
  have k1 : W.cell? ⟨w.heap.size, 1, none⟩ = some (.int .u8 (md : Int)) := by rw [blk_cell N1.out]; rfl
  go_wp2_with fail
  with_reducible refine C.mono ?_
  rintro e w1 ⟨rfl, hb1⟩
  obtain ⟨W2, hW2⟩ : ∃ W2, w1.alloc (.cells #[.string b, .int .i64 (x : Int), .int .i64 (y : Int)] 39) = W2 := ⟨_, rfl⟩
  have hB2 : Below W.heap.size W W2 := by
    rw [← hW2]
    exact hb1.alloc hb1.size _
  have hs2 := hb1.size
  have nT : W2.heap[w1.heap.size]? = some (.cells #[.string b, .int .i64 (x : Int), .int .i64 (y : Int)] 39 (0, 0)) := by
    rw [← hW2]
    exact World.alloc_heap_new _ _
  have hR1 := HE.out.on hb1
  have kr2 : KR w.heap.size w1.heap.size s md b x y W2 := ⟨(hB2.block _ (lt_of_block N1.out)).trans N1.out, nT⟩
  have hR2 := HE.out.on hB2
  have j0 : w1.cell? ⟨w.heap.size, 0, none⟩ = some (.string s) := by rw [blk_cell ((hb1.block _ (lt_of_block N1.out)).trans N1.out)]; rfl
  have j1 : w1.cell? ⟨w.heap.size, 1, none⟩ = some (.int .u8 (md : Int)) := by rw [blk_cell ((hb1.block _ (lt_of_block N1.out)).trans N1.out)]; rfl
  obtain ⟨c0, c1, c2, c3, c4⟩ := hR1.at_.cells
  have lg1 := hR1.at_.lt
  have lk1 : w.heap.size < w1.heap.size := by omega
  have CG := regoes_any hR2.at_ (tabs_on HT.out hB2) (by omega) hx s md (altB md) (ctrlB md) (shiftB md) _ _ _ rfl md_b.1 rfl md_b.2.2.1 rfl hsh
  have HFT := hid (HFt.out w1.heap.size (by omega))
  have HNT := hid (show g < w1.heap.size by omega)
  have HW2 := hid hW2
  have HR2 := hid hR2
  have HKR2 := hid kr2
  have HB2 := hid (HB.out.trans (hB2.mono HB.out.size))
  obtain ⟨q0, q1, q2, q3, q4⟩ := kr2.cells
  clear C k0 k1 hb1 hW2 hB2 nT hR1 kr2 hR2 HE N1 HW HFt hsh
  clear HB HT
  go_wp2_with fail
  rw [HW2.out]
  clear j0 j1 c0 c1 c2 c3 c4 HW2
  obtain ⟨c0, c1, c2, c3, c4⟩ := HR2.out.at_.cells
  cases hG : goesE b x y s (altB md) (ctrlB md) (!shiftB md && !ctrlB md) with
  | some z =>
    have hact : keyE b x y s md = .go z (if shiftB md then y else z) := by unfold keyE; rw [hG]
    rw [hG] at CG
    simp only [Option.isSome_some] at CG
    clear hG HA
    have HACT := hid hact
    clear hact
    with_reducible refine CG.mono ?_
    rintro e w3 ⟨z', rfl, hz', hb3⟩
    obtain rfl := hz' z rfl
    have kr3 := HKR2.out.on hb3
    have hR3 := HR2.out.on hb3
    have hB3 := HB2.out.trans (hb3.mono HB2.out.size)
    have CO := rto_any hR3.at_ z' (shiftB md)
    have HK3 := hid kr3
    have HR3 := hid hR3
    have HB3 := hid hB3
    obtain ⟨j0, j1, j2, j3, j4⟩ := kr3.cells
    clear q0 q1 q2 q3 q4 c0 c1 c2 c3 c4 CG kr3 hR3 hB3 hb3 hz'
    have a1 := md_b.2.2.2.1
    go_wp2_with fail
    with_reducible refine CO.mono ?_
    rintro e w4 ⟨rfl, h4, hg4⟩
    have kr4 := HK3.out.turn (F := fun k => k = g) (Turn.grown hg4 (fun k hk => by injection hk with hk; exact hk.symm)) (by have := HN0.out; omega) (by have := HNT.out; omega)
    have hR4 := HR3.out.text h4 hg4
    have hg40 : w.grownBy w4 (some g) := grown_below HB3.out hg4
    have hact := HACT.out
    generalize (if shiftB md = true then y else z') = Y at *
    have HFIN := hid (show ∀ wr, Below w4.heap.size w4 wr → RKP w base g b x y Bs Os Bk On (keyE b x y s md) (.returned (.tuple #[.bool (!txEq b b (z' : Int) (x : Int) (Y : Int) (y : Int)), .int .i64 0])) wr from fun wr hbr => by
      rw [hact]
      exact ⟨rfl, hR4.on hbr, grown_more hg40 hbr⟩)
    clear j0 j1 j2 j3 j4
    obtain ⟨j0, j1, j2, j3, j4⟩ := kr4.cells
    obtain ⟨c0, c1, c2, c3, c4⟩ := hR4.at_.cells
    have lg4 := hR4.at_.lt
    obtain ⟨l0, lT⟩ := kr4.lts
    clear CO h4 hg4 hg40 hact kr4 hR4 a1
    go_wp2
    refine region_ext mixed (by kernel_rfl) ?_
    (repeat (go_big_quiet_step (fail)))
    refine wpQuiet_nil ?_
    intro wr hbr
    go_wp2
    refine bodyPost_ret (v := .tuple #[.bool (!txEq b b (z' : Int) (x : Int) (Y : Int) (y : Int)), .int .i64 0]) (by simp [results, Tryz.results10, go_sem, *]) rfl (HFIN.out wr hbr)
  | none =>
    have hact := HA.out hG
    rw [hG] at CG
    simp only [Option.isSome_none] at CG
    clear hG HA
    have HACT := hid hact
    clear hact
    with_reducible refine CG.mono ?_
    rintro e wq ⟨z', rfl, hz', hb3⟩
    clear hz' q0 q1 q2 q3 q4 c0 c1 c2 c3 c4 CG
    have HKQ := hid (HKR2.out.on hb3)
    have HRQ := hid (HR2.out.on hb3)
    have HBQ := hid (HB2.out.trans (hb3.mono HB2.out.size))
    clear HKR2 HR2 HB2 hb3
    obtain ⟨k0, k1, k2, k3, k4⟩ := HKQ.out.cells
    have a4' := md_b.2.1
    have a2 := md_b.2.2.1
    obtain ⟨X1, hX1⟩ : ∃ X, ((decide (s = bsB) || decide (s = deB)) && !altB md) = X := ⟨_, rfl⟩
    have HX1 := hid hX1
    clear hX1
    go_upto_region 8 with fail
    go_cut [54] from 41 to 53 (fun v wx => v = .bool X1 ∧ wx = wq)
    case first =>
      have hX1 := HX1.out
      by_cases n : s = ⟨#[98, 97, 99, 107, 115, 112, 97, 99, 101]⟩
      · subst n
        rw [show decide ((⟨#[98, 97, 99, 107, 115, 112, 97, 99, 101]⟩ : ByteArray) = bsB) = true by decide, Bool.true_or, Bool.true_and] at hX1
        rw [hX1] at a4'
        go_wp2
        go_meet
        exact ⟨rfl, rfl⟩
      · by_cases n2 : s = ⟨#[100, 101, 108, 101, 116, 101]⟩
        · subst n2
          rw [show decide ((⟨#[100, 101, 108, 101, 116, 101]⟩ : ByteArray) = deB) = true by decide, Bool.or_true, Bool.true_and] at hX1
          rw [hX1] at a4'
          go_wp2
          go_meet
          exact ⟨rfl, rfl⟩
        · have t := str_ne (l := [98, 97, 99, 107, 115, 112, 97, 99, 101]) n
          have t2 := str_ne (l := [100, 101, 108, 101, 116, 101]) n2
          rw [show decide (s = bsB) = false from decide_eq_false n, show decide (s = deB) = false from decide_eq_false n2, Bool.or_false, Bool.false_and] at hX1
          subst hX1
          go_wp2
          go_meet
          exact ⟨rfl, rfl⟩
    case rest =>
    obtain ⟨rfl, rfl⟩ := hcut
    generalize wc = wq at *
    cases X1 with
    | true =>
      have CS := rChosen_any HRQ.out.at_
      obtain ⟨lo, hlo⟩ : ∃ z, min x y = z := ⟨_, rfl⟩
      obtain ⟨hi, hhi⟩ : ∃ z, max x y = z := ⟨_, rfl⟩
      rw [hlo, hhi] at CS
      have hact := HACT.out
      rw [hlo, hhi] at hact
      have n1 : lo ≤ hi := by omega
      have n2 : hi ≤ b.size := by omega
      have HACT2 := hid hact
      clear hlo hhi hact
      go_wp2_with fail
      with_reducible refine CS.mono ?_
      rintro e w4 ⟨rfl, hb4⟩
      clear CS k0 k1 k2 k3 k4
      have HK4 := hid (HKQ.out.on hb4)
      have HR4 := hid (HRQ.out.on hb4)
      have HB4 := hid (HBQ.out.trans (hb4.mono HBQ.out.size))
      clear HKQ HRQ HBQ hb4
      have HKQ := HK4
      have HRQ := HR4
      have HBQ := HB4
      clear HK4 HR4 HB4
      generalize w4 = wq at *
      obtain ⟨k0, k1, k2, k3, k4⟩ := HKQ.out.cells
      obtain ⟨c0, c1, c2, c3, c4⟩ := HRQ.out.at_.cells
      have lgq := HRQ.out.at_.lt
      have hact := HACT2.out
      have HX := HX1.out
      rw [Bool.and_eq_true] at HX
      by_cases n : s = bsB
      · have t : (s.toList == [98, 97, 99, 107, 115, 112, 97, 99, 101]) = true := by rw [n, ByteArray.toList_eq]; rfl
        rw [if_pos (by rw [decide_eq_true n, HX.2]; rfl)] at hact
        clear n HX
        by_cases hlh : lo = hi
        · rw [if_pos hlh] at hact
          subst hlh
          cases hrow : ctrlB md with
          | true =>
            rw [hrow, if_pos rfl] at hact
            rw [hrow] at a2
            have hTc := tabs_on HTw.out HBQ.out
            have CL := fun X : Ext wq => relrow_any b lo (ext X) (tabs_on hTc X.2) (by omega) n2
            have hle := lrowE_le b.data.toList lo

            obtain ⟨z, hz⟩ : ∃ z, lrowE b.data.toList lo = z := ⟨_, rfl⟩
            simp only [hz] at CL
            rw [hz] at hact hle
            have HACT3 := hid hact
            clear hact hz hTc
            go_wp2
            refine region_ext mixed (by kernel_rfl) ?_
            have lts := HKQ.out.lts
            have l0 := lts.1
            have lT := lts.2
            (repeat (go_big_quiet_step (first | (go_at_call 37; with_reducible exact in_ext (CL _)))))
            refine wpQuiet_nil ?_
            intro w5 hb5
            have HK4 := hid (HKQ.out.on hb5)
            have HR4 := hid (HRQ.out.on hb5)
            have HB4 := hid (HBQ.out.trans (hb5.mono HBQ.out.size))
            clear CL c0 c1 c2 c3 c4 k0 k1 k2 k3 k4 lgq lts l0 lT HKQ HRQ HBQ hb5
            have HKQ := HK4
            have HRQ := HR4
            have HBQ := HB4
            clear HK4 HR4 HB4
            have CC := rchange_all HRQ.out hbase ⟨#[]⟩ (z) (lo) hle n2 hb (by decide) hk
            obtain ⟨k0, k1, k2, k3, k4⟩ := HKQ.out.cells
            go_wp2_with fail
            with_reducible refine CC.mono ?_
            intro e w6 hc
            obtain ⟨err, b', x', y', p', q', rfl, h6, kr6, herr, hfin⟩ := RCh.fin HBQ.out HRQ.out hc HKQ.out HF0.out HFT.out
            obtain rfl := herr (by have : (⟨#[]⟩ : ByteArray).size = 0 := rfl; omega)
            simp only [decide_true, eq_self, Bool.true_and] at hfin
            have HFIN := hid hfin
            obtain ⟨c0, c1, c2, c3, c4⟩ := h6.cells
            have lg6 := h6.lt
            clear k0 k1 k2 k3 k4
            obtain ⟨k0, k1, k2, k3, k4⟩ := kr6.cells
            obtain ⟨l0, lT⟩ := kr6.lts
            clear CC hc hfin herr h6 kr6
            go_wp2
            refine region_ext mixed (by kernel_rfl) ?_
            (repeat (go_big_quiet_step (fail)))
            refine wpQuiet_nil ?_
            intro wr hbr
            go_wp2
            refine bodyPost_ret (v := .tuple #[.bool (!txEq b' b (x' : Int) (x : Int) (y' : Int) (y : Int)), .int .i64 0]) (by simp [results, Tryz.results10, go_sem, *]) rfl (by have := HFIN.out wr hbr; rw [HACT3.out]; exact this)
          | false =>
            rw [hrow, if_neg (by decide)] at hact
            rw [hrow] at a2
            have hTc := tabs_on HTw.out HBQ.out
            have CL := fun X : Ext wq => releft_any b lo (ext X) (by omega) n2
            have hle := leftE_le b.data.toList lo

            obtain ⟨z, hz⟩ : ∃ z, leftE b.data.toList lo = z := ⟨_, rfl⟩
            simp only [hz] at CL
            rw [hz] at hact hle
            have HACT3 := hid hact
            clear hact hz hTc
            go_wp2
            refine region_ext mixed (by kernel_rfl) ?_
            have lts := HKQ.out.lts
            have l0 := lts.1
            have lT := lts.2
            (repeat (go_big_quiet_step (first | (go_at_call 37; with_reducible exact in_ext (CL _)))))
            refine wpQuiet_nil ?_
            intro w5 hb5
            have HK4 := hid (HKQ.out.on hb5)
            have HR4 := hid (HRQ.out.on hb5)
            have HB4 := hid (HBQ.out.trans (hb5.mono HBQ.out.size))
            clear CL c0 c1 c2 c3 c4 k0 k1 k2 k3 k4 lgq lts l0 lT HKQ HRQ HBQ hb5
            have HKQ := HK4
            have HRQ := HR4
            have HBQ := HB4
            clear HK4 HR4 HB4
            have CC := rchange_all HRQ.out hbase ⟨#[]⟩ (z) (lo) hle n2 hb (by decide) hk
            obtain ⟨k0, k1, k2, k3, k4⟩ := HKQ.out.cells
            go_wp2_with fail
            with_reducible refine CC.mono ?_
            intro e w6 hc
            obtain ⟨err, b', x', y', p', q', rfl, h6, kr6, herr, hfin⟩ := RCh.fin HBQ.out HRQ.out hc HKQ.out HF0.out HFT.out
            obtain rfl := herr (by have : (⟨#[]⟩ : ByteArray).size = 0 := rfl; omega)
            simp only [decide_true, eq_self, Bool.true_and] at hfin
            have HFIN := hid hfin
            obtain ⟨c0, c1, c2, c3, c4⟩ := h6.cells
            have lg6 := h6.lt
            clear k0 k1 k2 k3 k4
            obtain ⟨k0, k1, k2, k3, k4⟩ := kr6.cells
            obtain ⟨l0, lT⟩ := kr6.lts
            clear CC hc hfin herr h6 kr6
            go_wp2
            refine region_ext mixed (by kernel_rfl) ?_
            (repeat (go_big_quiet_step (fail)))
            refine wpQuiet_nil ?_
            intro wr hbr
            go_wp2
            refine bodyPost_ret (v := .tuple #[.bool (!txEq b' b (x' : Int) (x : Int) (y' : Int) (y : Int)), .int .i64 0]) (by simp [results, Tryz.results10, go_sem, *]) rfl (by have := HFIN.out wr hbr; rw [HACT3.out]; exact this)
        · rw [if_neg hlh] at hact
          have q1 : ((lo : Int) == (hi : Int)) = false := beq_eq_false_iff_ne.2 (by omega)
          have q2 : ¬ (lo : Int) = (hi : Int) := by omega
          have HACT3 := hid hact
          clear hact k0 k1 k2 k3 k4
          have CC := rchange_all HRQ.out hbase ⟨#[]⟩ (lo) (hi) n1 n2 hb (by decide) hk
          obtain ⟨k0, k1, k2, k3, k4⟩ := HKQ.out.cells
          go_wp2_with fail
          with_reducible refine CC.mono ?_
          intro e w6 hc
          obtain ⟨err, b', x', y', p', q', rfl, h6, kr6, herr, hfin⟩ := RCh.fin HBQ.out HRQ.out hc HKQ.out HF0.out HFT.out
          obtain rfl := herr (by have : (⟨#[]⟩ : ByteArray).size = 0 := rfl; omega)
          simp only [decide_true, eq_self, Bool.true_and] at hfin
          have HFIN := hid hfin
          obtain ⟨c0, c1, c2, c3, c4⟩ := h6.cells
          have lg6 := h6.lt
          clear k0 k1 k2 k3 k4
          obtain ⟨k0, k1, k2, k3, k4⟩ := kr6.cells
          obtain ⟨l0, lT⟩ := kr6.lts
          clear CC hc hfin herr h6 kr6
          go_wp2
          refine region_ext mixed (by kernel_rfl) ?_
          (repeat (go_big_quiet_step (fail)))
          refine wpQuiet_nil ?_
          intro wr hbr
          go_wp2
          refine bodyPost_ret (v := .tuple #[.bool (!txEq b' b (x' : Int) (x : Int) (y' : Int) (y : Int)), .int .i64 0]) (by simp [results, Tryz.results10, go_sem, *]) rfl (by have := HFIN.out wr hbr; rw [HACT3.out]; exact this)
      · have t := str_ne (l := [98, 97, 99, 107, 115, 112, 97, 99, 101]) n
        have nd : s = deB := by
          have := HX.1
          rw [decide_eq_false n, Bool.false_or] at this
          exact of_decide_eq_true this
        rw [if_neg (by rw [decide_eq_false n, Bool.false_and]; decide), if_pos (by rw [decide_eq_true nd, HX.2]; rfl)] at hact
        clear n nd HX
        by_cases hlh : lo = hi
        · rw [if_pos hlh] at hact
          subst hlh
          cases hrow : ctrlB md with
          | true =>
            rw [hrow, if_pos rfl] at hact
            rw [hrow] at a2
            have hTc := tabs_on HTw.out HBQ.out
            have CL := fun X : Ext wq => reword_any b lo (ext X) (tabs_on hTc X.2) (by omega)
            have hle := rwordE_ge b.data.toList (a := lo) (by rw [ba_len]; exact n2)
            rw [ba_len] at hle
            obtain ⟨z, hz⟩ : ∃ z, rwordE b.data.toList lo = z := ⟨_, rfl⟩
            simp only [hz] at CL
            rw [hz] at hact hle
            have HACT3 := hid hact
            clear hact hz hTc
            go_wp2
            refine region_ext mixed (by kernel_rfl) ?_
            have lts := HKQ.out.lts
            have l0 := lts.1
            have lT := lts.2
            (repeat (go_big_quiet_step (first | (go_at_call 38; with_reducible exact in_ext (CL _)))))
            refine wpQuiet_nil ?_
            intro w5 hb5
            have HK4 := hid (HKQ.out.on hb5)
            have HR4 := hid (HRQ.out.on hb5)
            have HB4 := hid (HBQ.out.trans (hb5.mono HBQ.out.size))
            clear CL c0 c1 c2 c3 c4 k0 k1 k2 k3 k4 lgq lts l0 lT HKQ HRQ HBQ hb5
            have HKQ := HK4
            have HRQ := HR4
            have HBQ := HB4
            clear HK4 HR4 HB4
            have CC := rchange_all HRQ.out hbase ⟨#[]⟩ (lo) (z) hle.1 hle.2 hb (by decide) hk
            obtain ⟨k0, k1, k2, k3, k4⟩ := HKQ.out.cells
            go_wp2_with fail
            with_reducible refine CC.mono ?_
            intro e w6 hc
            obtain ⟨err, b', x', y', p', q', rfl, h6, kr6, herr, hfin⟩ := RCh.fin HBQ.out HRQ.out hc HKQ.out HF0.out HFT.out
            obtain rfl := herr (by have : (⟨#[]⟩ : ByteArray).size = 0 := rfl; omega)
            simp only [decide_true, eq_self, Bool.true_and] at hfin
            have HFIN := hid hfin
            obtain ⟨c0, c1, c2, c3, c4⟩ := h6.cells
            have lg6 := h6.lt
            clear k0 k1 k2 k3 k4
            obtain ⟨k0, k1, k2, k3, k4⟩ := kr6.cells
            obtain ⟨l0, lT⟩ := kr6.lts
            clear CC hc hfin herr h6 kr6
            go_wp2
            refine region_ext mixed (by kernel_rfl) ?_
            (repeat (go_big_quiet_step (fail)))
            refine wpQuiet_nil ?_
            intro wr hbr
            go_wp2
            refine bodyPost_ret (v := .tuple #[.bool (!txEq b' b (x' : Int) (x : Int) (y' : Int) (y : Int)), .int .i64 0]) (by simp [results, Tryz.results10, go_sem, *]) rfl (by have := HFIN.out wr hbr; rw [HACT3.out]; exact this)
          | false =>
            rw [hrow, if_neg (by decide)] at hact
            rw [hrow] at a2
            have hTc := tabs_on HTw.out HBQ.out
            have CL := fun X : Ext wq => reright_any b lo (ext X) (by omega)
            have hle := rightE_ge b.data.toList (a := lo) (by rw [ba_len]; exact n2)
            rw [ba_len] at hle
            obtain ⟨z, hz⟩ : ∃ z, rightE b.data.toList lo = z := ⟨_, rfl⟩
            simp only [hz] at CL
            rw [hz] at hact hle
            have HACT3 := hid hact
            clear hact hz hTc
            go_wp2
            refine region_ext mixed (by kernel_rfl) ?_
            have lts := HKQ.out.lts
            have l0 := lts.1
            have lT := lts.2
            (repeat (go_big_quiet_step (first | (go_at_call 38; with_reducible exact in_ext (CL _)))))
            refine wpQuiet_nil ?_
            intro w5 hb5
            have HK4 := hid (HKQ.out.on hb5)
            have HR4 := hid (HRQ.out.on hb5)
            have HB4 := hid (HBQ.out.trans (hb5.mono HBQ.out.size))
            clear CL c0 c1 c2 c3 c4 k0 k1 k2 k3 k4 lgq lts l0 lT HKQ HRQ HBQ hb5
            have HKQ := HK4
            have HRQ := HR4
            have HBQ := HB4
            clear HK4 HR4 HB4
            have CC := rchange_all HRQ.out hbase ⟨#[]⟩ (lo) (z) hle.1 hle.2 hb (by decide) hk
            obtain ⟨k0, k1, k2, k3, k4⟩ := HKQ.out.cells
            go_wp2_with fail
            with_reducible refine CC.mono ?_
            intro e w6 hc
            obtain ⟨err, b', x', y', p', q', rfl, h6, kr6, herr, hfin⟩ := RCh.fin HBQ.out HRQ.out hc HKQ.out HF0.out HFT.out
            obtain rfl := herr (by have : (⟨#[]⟩ : ByteArray).size = 0 := rfl; omega)
            simp only [decide_true, eq_self, Bool.true_and] at hfin
            have HFIN := hid hfin
            obtain ⟨c0, c1, c2, c3, c4⟩ := h6.cells
            have lg6 := h6.lt
            clear k0 k1 k2 k3 k4
            obtain ⟨k0, k1, k2, k3, k4⟩ := kr6.cells
            obtain ⟨l0, lT⟩ := kr6.lts
            clear CC hc hfin herr h6 kr6
            go_wp2
            refine region_ext mixed (by kernel_rfl) ?_
            (repeat (go_big_quiet_step (fail)))
            refine wpQuiet_nil ?_
            intro wr hbr
            go_wp2
            refine bodyPost_ret (v := .tuple #[.bool (!txEq b' b (x' : Int) (x : Int) (y' : Int) (y : Int)), .int .i64 0]) (by simp [results, Tryz.results10, go_sem, *]) rfl (by have := HFIN.out wr hbr; rw [HACT3.out]; exact this)
        · rw [if_neg hlh] at hact
          have q1 : ((lo : Int) == (hi : Int)) = false := beq_eq_false_iff_ne.2 (by omega)
          have q2 : ¬ (lo : Int) = (hi : Int) := by omega
          have HACT3 := hid hact
          clear hact k0 k1 k2 k3 k4
          have CC := rchange_all HRQ.out hbase ⟨#[]⟩ (lo) (hi) n1 n2 hb (by decide) hk
          obtain ⟨k0, k1, k2, k3, k4⟩ := HKQ.out.cells
          go_wp2_with fail
          with_reducible refine CC.mono ?_
          intro e w6 hc
          obtain ⟨err, b', x', y', p', q', rfl, h6, kr6, herr, hfin⟩ := RCh.fin HBQ.out HRQ.out hc HKQ.out HF0.out HFT.out
          obtain rfl := herr (by have : (⟨#[]⟩ : ByteArray).size = 0 := rfl; omega)
          simp only [decide_true, eq_self, Bool.true_and] at hfin
          have HFIN := hid hfin
          obtain ⟨c0, c1, c2, c3, c4⟩ := h6.cells
          have lg6 := h6.lt
          clear k0 k1 k2 k3 k4
          obtain ⟨k0, k1, k2, k3, k4⟩ := kr6.cells
          obtain ⟨l0, lT⟩ := kr6.lts
          clear CC hc hfin herr h6 kr6
          go_wp2
          refine region_ext mixed (by kernel_rfl) ?_
          (repeat (go_big_quiet_step (fail)))
          refine wpQuiet_nil ?_
          intro wr hbr
          go_wp2
          refine bodyPost_ret (v := .tuple #[.bool (!txEq b' b (x' : Int) (x : Int) (y' : Int) (y : Int)), .int .i64 0]) (by simp [results, Tryz.results10, go_sem, *]) rfl (by have := HFIN.out wr hbr; rw [HACT3.out]; exact this)
    | false =>
      have CT := retyped_any s md wq (by omega) hs0 (ctrlB md || altB md) _ rfl md_b.2.2.2.2.2
      have hact := HACT.out
      have HX := HX1.out
      rw [if_neg (by intro e; rw [Bool.and_eq_true] at e; rw [e.1, Bool.true_or, Bool.true_and, e.2] at HX; cases HX), if_neg (by intro e; rw [Bool.and_eq_true] at e; rw [e.1, Bool.or_true, Bool.true_and, e.2] at HX; cases HX)] at hact
      obtain ⟨tx, htx⟩ : ∃ z, typedE s (ctrlB md || altB md) = z := ⟨_, rfl⟩
      have htz : tx.size ≤ 1000000 := by rw [← htx]; exact typedE_len s _ (by omega)
      have htc : ctrlB md = true → tx.size = 0 := by intro e; rw [← htx, e]; rfl
      rw [htx] at CT hact
      have HACT2 := hid hact
      clear htx HX hact
      go_wp2_with fail
      with_reducible refine CT.mono ?_
      rintro e w4 ⟨rfl, hb4⟩
      clear CT k0 k1 k2 k3 k4
      have HK4 := hid (HKQ.out.on hb4)
      have HR4 := hid (HRQ.out.on hb4)
      have HB4 := hid (HBQ.out.trans (hb4.mono HBQ.out.size))
      clear HKQ HRQ HBQ hb4
      have HKQ := HK4
      have HRQ := HR4
      have HBQ := HB4
      clear HK4 HR4 HB4
      generalize w4 = wq at *
      have hact := HACT2.out
      by_cases hz0 : tx.size = 0
      · rw [if_pos hz0] at hact
        have hd0 : decide (tx.size ≠ 0) = false := decide_eq_false (fun h => h hz0)
        rw [hd0]
        obtain ⟨k0, k1, k2, k3, k4⟩ := HKQ.out.cells
        by_cases hA : (decide (s = ⟨#[97]⟩) && decide (md = 2)) = true
        · rw [if_pos hA] at hact
          rw [Bool.and_eq_true, decide_eq_true_eq, decide_eq_true_eq] at hA
          obtain ⟨hA1, hA2⟩ := hA
          subst hA1
          subst hA2
          have HACT3 := hid hact
          have hgs : ∀ u : ByteArray, ∃ n : Nat, u.size = n := fun u => ⟨_, rfl⟩
          obtain ⟨c0, c1, c2, c3, c4⟩ := HRQ.out.at_.cells
          have lgq := HRQ.out.at_.lt
          have f1 := HRQ.out.at_.free 1
          have f2 := HRQ.out.at_.free 2
          have hE5 : RdAt ((wq.setCell ⟨g, 1, none⟩ (.int .i64 (b.size : Int))).setCell ⟨g, 2, none⟩ (.int .i64 (0 : Nat))) g b b.size 0 Bk On := store_in (store_in HRQ.out.at_)
          have hg5 : wq.grownBy ((wq.setCell ⟨g, 1, none⟩ (.int .i64 (b.size : Int))).setCell ⟨g, 2, none⟩ (.int .i64 (0 : Nat))) (some g) := grown_cell (grown_cell (World.grownBy.refl _ _))
          have kr5 := HKQ.out.turn (F := fun k => k = g) (Turn.grown hg5 (fun k hk => by injection hk with hk; exact hk.symm)) (by have := HN0.out; omega) (by have := HNT.out; omega)
          have hR5 := HRQ.out.text hE5 hg5
          have hg50 : w.grownBy _ (some g) := grown_below HBQ.out hg5
          obtain ⟨WA, hWA⟩ : ∃ WA, (wq.setCell ⟨g, 1, none⟩ (.int .i64 (b.size : Int))).setCell ⟨g, 2, none⟩ (.int .i64 (0 : Nat)) = WA := ⟨_, rfl⟩
          rw [hWA] at hE5 hg5 kr5 hR5 hg50
          have hWA' : (wq.setCell ⟨g, 1, none⟩ (.int .i64 (b.size : Int))).setCell ⟨g, 2, none⟩ (.int .i64 0) = WA := hWA
          have HWA := hid hWA'
          have HFIN := hid (show ∀ wr, Below WA.heap.size WA wr → RKP w base g b x y Bs Os Bk On (keyE b x y ⟨#[97]⟩ 2) (.returned (.tuple #[.bool (!txEq b b (b.size : Int) (x : Int) (0 : Int) (y : Int)), .int .i64 0])) wr from fun wr hbr => by
            rw [hact]
            exact ⟨rfl, hR5.on hbr, grown_more hg50 hbr⟩)
          have j5 := kr5.cells
          obtain ⟨l0, lT⟩ := kr5.lts
          have e5 := hE5.cells
          have l5 := hE5.lt
          have J5 := hid j5
          have E5 := hid e5
          clear hE5 hg5 kr5 hR5 hg50 hWA hWA' hact j5 e5
          go_upto_region 22 with fail
          rw [HWA.out]
          clear k0 k1 k2 k3 k4 c0 c1 c2 c3 c4 f1 f2 lgq
          obtain ⟨k0, k1, k2, k3, k4⟩ := J5.out
          obtain ⟨c0, c1, c2, c3, c4⟩ := E5.out
          go_wp2
          refine region_ext mixed (by kernel_rfl) ?_
          (repeat (go_big_quiet_step (fail)))
          refine wpQuiet_nil ?_
          intro wr hbr
          go_wp2
          refine bodyPost_ret (v := .tuple #[.bool (!txEq b b (b.size : Int) (x : Int) (0 : Int) (y : Int)), .int .i64 0]) (by simp [results, Tryz.results10, go_sem, *]) rfl (HFIN.out wr hbr)
        · rw [if_neg hA] at hact
          have HFIN := hid (show RKP w base g b x y Bs Os Bk On (keyE b x y s md) (.returned (.tuple #[.bool false, .int .i64 0])) wq by
            rw [hact]
            exact ⟨rfl, HBQ.out⟩)
          clear hact
          have m2 : ∀ k : Nat, md ≠ k → ((md : Int) == (k : Int)) = false := fun k hk => beq_eq_false_iff_ne.2 (by omega)
          by_cases na : s = ⟨#[97]⟩
          · subst na
            have hm2 : ¬ md = 2 := fun e => hA (by rw [e]; rfl)
            have p1 : ((md : Int) == 2) = false := m2 2 hm2
            have p2 : ¬ (md : Int) = 2 := by omega
            have p3 : decide ((md : Int) = 2) = false := decide_eq_false p2
            clear m2
            go_wp2
            refine bodyPost_ret (v := .tuple #[.bool false, .int .i64 0]) (by simp [results, Tryz.results10, go_sem, *]) rfl HFIN.out
          · have t := str_ne (l := [97]) na
            by_cases nz : s = ⟨#[122]⟩
            · subst nz
              have hm2 : ¬ md = 2 := fun e => by
                rw [e] at hz
                exact absurd hz (by decide)
              have hm3 : ¬ md = 3 := fun e => by
                rw [e] at hyz
                exact absurd hyz (by decide)
              have p1 : ((md : Int) == 2) = false := m2 2 hm2
              have p2 : ¬ (md : Int) = 2 := by omega
              have p3 : decide ((md : Int) = 2) = false := decide_eq_false p2
              have r1 : ((md : Int) == 3) = false := m2 3 hm3
              have r2 : ¬ (md : Int) = 3 := by omega
              have r3 : decide ((md : Int) = 3) = false := decide_eq_false r2
              clear m2
              go_wp2
              refine bodyPost_ret (v := .tuple #[.bool false, .int .i64 0]) (by simp [results, Tryz.results10, go_sem, *]) rfl HFIN.out
            · have tz := str_ne (l := [122]) nz
              by_cases ny : s = ⟨#[121]⟩
              · subst ny
                have hm2 : ¬ md = 2 := fun e => by
                  rw [e] at hyz
                  exact absurd hyz (by decide)
                have p1 : ((md : Int) == 2) = false := m2 2 hm2
                have p2 : ¬ (md : Int) = 2 := by omega
                have p3 : decide ((md : Int) = 2) = false := decide_eq_false p2
                clear m2
                go_wp2
                refine bodyPost_ret (v := .tuple #[.bool false, .int .i64 0]) (by simp [results, Tryz.results10, go_sem, *]) rfl HFIN.out
              · have ty := str_ne (l := [121]) ny
                clear m2
                go_wp2
                refine bodyPost_ret (v := .tuple #[.bool false, .int .i64 0]) (by simp [results, Tryz.results10, go_sem, *]) rfl HFIN.out
      · have hc0 : ctrlB md = false := by
          cases h : ctrlB md with
          | false => rfl
          | true => exact absurd (htc h) hz0
        have hA : ¬ (decide (s = ⟨#[97]⟩) && decide (md = 2)) = true := fun e => by
          rw [Bool.and_eq_true, decide_eq_true_eq, decide_eq_true_eq] at e
          rw [e.2] at hc0
          exact absurd hc0 (by decide)
        rw [if_neg hA, if_neg hz0] at hact
        have hd0 : decide (tx.size ≠ 0) = true := decide_eq_true hz0
        rw [hd0]
        have CY := rType_any HRQ.out hbase tx hx hy hb htz hk
        obtain ⟨k0, k1, k2, k3, k4⟩ := HKQ.out.cells
        have HACT3 := hid hact
        clear hact
        go_wp2_with fail
        with_reducible refine CY.mono ?_
        intro e w6 hc
        obtain ⟨err, b', x', y', p', q', rfl, h6, kr6, herr, hfin⟩ := RCh.fin HBQ.out HRQ.out hc HKQ.out HF0.out HFT.out
        rw [← HACT3.out] at hfin
        obtain ⟨c0, c1, c2, c3, c4⟩ := h6.cells
        have lg6 := h6.lt
        clear k0 k1 k2 k3 k4
        obtain ⟨k0, k1, k2, k3, k4⟩ := kr6.cells
        obtain ⟨l0, lT⟩ := kr6.lts
        clear CY hc h6 kr6 herr
        by_cases he : err = 0
        · subst he
          simp only [decide_true, eq_self, Bool.true_and] at hfin
          have HFIN := hid hfin
          clear hfin
          go_wp2
          refine region_ext mixed (by kernel_rfl) ?_
          (repeat (go_big_quiet_step (fail)))
          refine wpQuiet_nil ?_
          intro wr hbr
          go_wp2
          refine bodyPost_ret (v := .tuple #[.bool (!txEq b' b (x' : Int) (x : Int) (y' : Int) (y : Int)), .int .i64 0]) (by simp [results, Tryz.results10, go_sem, *]) rfl (HFIN.out wr hbr)
        · rw [decide_eq_false he, Bool.false_and] at hfin
          have HFIN := hid hfin
          have he1 : (err == 0) = false := beq_eq_false_iff_ne.2 he
          clear hfin
          go_wp2
          refine region_ext mixed (by kernel_rfl) ?_
          (repeat (go_big_quiet_step (fail)))
          refine wpQuiet_nil ?_
          intro wr hbr
          go_wp2
          refine bodyPost_ret (v := .tuple #[.bool false, .int .i64 err]) (by simp [results, Tryz.results10, go_sem, *]) rfl (HFIN.out wr hbr)
end Go.Proofs.YtcfgpmmclijonaaGreatDoor

/- Layer 25, the reference: Show. -/
namespace Go.Proofs.YtcfgpmmclijonaaGreatDoor
set_option linter.unusedVariables false
set_option linter.unusedSimpArgs false
set_option maxRecDepth 100000
open Go.RowKit Go.Shelf Go.Lib
set_option maxRecDepth 100000
set_option maxHeartbeats 8000000

section
variable {w : World} {g : Nat} {b : ByteArray} {x y : Nat} {p q : Value}
theorem rShow_bad (n : Int) (w : World) (hn : n < 1 ∨ 16384 < n) : Calls Tryz.prog 18 #[.pointer (some ⟨g, 0, none⟩), .int .i64 n] w fun e w' => e = .returned (.tuple #[.string ⟨#[]⟩, .int .i64 0, .int .i64 2]) ∧ Below w.heap.size w w' := by
  have hc : (decide (n < 1) = true) ∨ (decide (n < 1) = false ∧ decide (16384 < n) = true) := by
    by_cases h0 : n < 1
    · exact .inl (decide_eq_true h0)
    · exact .inr ⟨decide_eq_false h0, decide_eq_true (by omega)⟩
  clear hn
  rcases hc with q1 | ⟨q1, q2⟩
  all_goals
    go_enter Tryz.func18, Tryz.ntmps18
    go_wp2
    exact bodyPost_ret (by simp [results, Tryz.results18, go_sem, *]) rfl ⟨rfl, Below.refl _ _⟩
theorem rShow_any (h : RdAt w g b x y p q) (hb : b.size ≤ 4000000) (hx : Seam b.data.toList x) (n : Nat) (h1 : 1 ≤ n) (h2 : n ≤ 16384) :
    Calls Tryz.prog 18 #[.pointer (some ⟨g, 0, none⟩), .int .i64 (n : Int)] w fun e w' => e = .returned (.tuple #[.string (b.extract (showA b x n) (showZ b x n)), .int .i64 (showC b x n : Int), .int .i64 0]) ∧ Below w.heap.size w w' := by
  have hl := ba_len b
  have hxl := hx.le
  rw [hl] at hxl
  have eA := lnA_eq hxl
  have eB := lnB_eq hxl
  have sA := eA.2.seam
  have bB := eB.2.2.1
  have bB1 := eB.2.1
  rw [hl] at bB
  have CL := fun w1 => reline_any b x w1 hb hxl
  obtain ⟨i1, hi1, hx1⟩ := hx
  obtain ⟨iA, hiA, hA1⟩ := sA
  have p1 : pix (pcs b.data.toList) x = i1 := by rw [hx1]; exact pix_off _ hi1
  have p2 : pix (pcs b.data.toList) (lnA b x) = iA := by rw [hA1]; exact pix_off _ hiA
  have hmo : iA ≤ i1 := by
    false_or_by_contra
    have h3 : i1 < iA := by omega
    have h4 := off_strict (pcs_pos b.data.toList) (show i1 < (pcs b.data.toList).length by omega)
    have h5 := off_mono (pcs b.data.toList) (show i1 + 1 ≤ iA by omega)
    have := eA.2.1
    omega
  have hsp := shwF_spec (pcs b.data.toList) i1 n h1 hi1 (pcs b.data.toList).length iA hmo (by omega)
  have CC := fun j k (w1 : World) => recells_any (b.extract j k) w1 (by rw [ByteArray.size_extract]; omega)
  have CX := fun (i j : Nat) (hij : i ≤ j) (hj : j ≤ (pcs b.data.toList).length) => cells_sub b hij hj
  have hnx : ∀ (j : Nat), j < (pcs b.data.toList).length → rightE b.data.toList (off (pcs b.data.toList) j) = off (pcs b.data.toList) (j + 1) := fun j hj => by
    unfold rightE
    rw [next_off hj]
    rfl
  have CN2 : ∀ j w1, j < (pcs b.data.toList).length → Calls Tryz.prog 48 #[.string b, .int .i64 (off (pcs b.data.toList) j : Int)] w1 fun e w' => e = .returned (.int .i64 (off (pcs b.data.toList) (j + 1) : Int)) ∧ Below w1.heap.size w1 w' := fun j w1 hj => by
    have q := renext_any b (off (pcs b.data.toList) j) w1 hb
    rw [hnx j hj] at q
    exact q
  have hos := fun (j : Nat) (hj : j < (pcs b.data.toList).length) => off_strict (pcs_pos b.data.toList) hj
  have hoe := fun (j : Nat) => off_end b.data.toList j
  have hom := fun (i j : Nat) (hij : i ≤ j) => off_mono (pcs b.data.toList) hij
  have htl := fun (j : Nat) => toC_le (pcs b.data.toList) j
  have htm := fun (j k : Nat) (h : j ≤ k) (hk : k ≤ (pcs b.data.toList).length) => toC_mono_ (pcs b.data.toList) h hk
  have hof := off_full b.data.toList
  have hpl := pcs_len b.data.toList
  simp only [hl] at hoe hpl hof
  have hz : showZ b x n = off (pcs b.data.toList) (undF (pcs b.data.toList) (lnB b x) (n : Int) (pcs b.data.toList).length (shwF (pcs b.data.toList) i1 n (pcs b.data.toList).length iA) 0) := by
    unfold showZ showA showI undE
    rw [p1, p2, pix_off _ (Nat.le_trans hsp.2.1 hi1)]
  have ha : showA b x n = off (pcs b.data.toList) (shwF (pcs b.data.toList) i1 n (pcs b.data.toList).length iA) := by
    unfold showA showI
    rw [p1, p2]
  have hc : showC b x n = toC (pcs b.data.toList) i1 - toC (pcs b.data.toList) (shwF (pcs b.data.toList) i1 n (pcs b.data.toList).length iA) := by
    unfold showC showI
    rw [p1, p2]
  rw [ha, hc, hz]
  clear ha hc hz
  have HH := hid h
  obtain ⟨B, hB⟩ : ∃ B, lnB b x = B := ⟨_, rfl⟩
  rw [hB] at CL bB bB1
  rw [hB]
  rw [hA1] at CL
  rw [hx1] at HH CL
  clear eA eB hA1 p1 p2 h hnx
  obtain ⟨R, hR⟩ : ∃ R, shwF (pcs b.data.toList) i1 n (pcs b.data.toList).length iA = R := ⟨_, rfl⟩
  rw [hR] at hsp
  rw [hR]
  have HR := hid hR
  have HSP := hid hsp
  have hun := undF_gen (P := pcs b.data.toList) (b := B) (i0 := R) (most := (n : Int)) (pcs b.data.toList).length R 0 rfl (Nat.le_trans hsp.2.1 hi1) (by omega) (by omega)
  obtain ⟨U, hU⟩ : ∃ U, undF (pcs b.data.toList) B (n : Int) (pcs b.data.toList).length R 0 = U := ⟨_, rfl⟩
  rw [hU] at hun
  rw [hU]
  clear hR hsp hU hB hx1 hxl
  generalize pcs b.data.toList = P at *
  obtain ⟨z3, hz3⟩ : ∃ z, off P i1 = z := ⟨_, rfl⟩
  rw [hz3] at HH CL
  have HZ3 := hid hz3
  clear hz3
  have HC := hid CC
  have HN := hid CN2
  have HX := hid CX
  have HOS := hid hos
  have HOE := hid hoe
  have HOM := hid hom
  have HTL := hid htl
  have HTM := hid htm
  have HOF := hid hof
  have HU := hid hun
  have HBB := hid bB
  clear CC CN2 CX hos hoe hom htl htm hof hun bB bB1
  have n1 : decide ((n : Int) < 1) = false := decide_eq_false (by omega)
  have n2 : decide ((16384 : Int) < (n : Int)) = false := decide_eq_false (by omega)
  have n3 : ¬ (16384 : Int) < (n : Int) := by omega
  have n4 : ¬ (n : Int) < 1 := by omega
  have n5 : ¬ n = 0 := by omega
  have n6 : ¬ n < 1 := by omega
  have n7 : ¬ 16384 < n := by omega
  obtain ⟨c0, c1, c2, c3, c4⟩ := HH.out.cells
  have lg := HH.out.lt
  go_enter Tryz.func18, Tryz.ntmps18
  go_wp2
  refine region_ext mixed (by kernel_rfl) ?_
  (repeat (go_big_quiet_step (fail)))
  refine wpQuiet_nil ?_
  intro w2 hb2
  clear c0 c1 c2 c3 c4
  go_wp2_with fail
  with_reducible refine (CL _).mono ?_
  rintro e w3 ⟨rfl, hb3⟩
  have hB3 := hb2.trans (hb3.mono hb2.size)
  clear CL hb3 hb2
  go_wp2
  go_loopg [9] P.length (fun gh v9 wr => ∃ i f : Nat, v9 = .int .i64 (off P i : Int) ∧ i ≤ i1 ∧ P.length - i ≤ gh ∧ i1 ≤ f + i ∧ Hid (shwF P i1 n f i = R) ∧ Below w.heap.size w wr)
  case atStart => exact ⟨iA, P.length, rfl, hmo, by omega, by omega, HR, hB3⟩
  case round =>
    obtain ⟨i, f, rfl, hi, hgh, hf, HF, hbr⟩ := hrel
    have C1 := HC.out (off P i) z3 wr
    have hxx := (HX.out i i1 hi hi1).1
    have p1 := HOM.out i i1 hi
    have p2 := HOE.out i1
    rw [HZ3.out] at hxx p1 p2
    rw [hxx] at C1
    clear hxx
    have p3 := HTL.out i1
    by_cases hc : n ≤ toC P i1 - toC P i
    · have hlt : i < i1 := by
        false_or_by_contra
        have : i = i1 := by omega
        subst this
        omega
      obtain ⟨f, rfl⟩ : ∃ f', f = f' + 1 := ⟨f - 1, by omega⟩
      have hF := HF.out
      rw [shwF, if_pos hc] at hF
      have HF2 := hid hF
      have C2 := fun w1 => HN.out i w1 (by omega)
      obtain ⟨a1, ha1⟩ : ∃ z, toC P i1 - toC P i = z := ⟨_, rfl⟩
      rw [ha1] at hc C1
      obtain ⟨z1, hz1⟩ : ∃ z, off P i = z := ⟨_, rfl⟩
      obtain ⟨z2, hz2⟩ : ∃ z, off P (i + 1) = z := ⟨_, rfl⟩
      rw [hz1] at C1
      rw [hz1, hz2] at C2
      rw [hz1] at p1
      rw [hz1]
      have HZ2 := hid hz2
      have q1 : (z1 : Int) ≤ (z3 : Int) := by omega
      have q2 : (z3 : Int) ≤ (b.size : Int) := by omega
      have q3 : (n : Int) ≤ (a1 : Int) := by omega
      have HC2 := hid C2
      clear hF HF ha1 hz1 hz2 C2 p3
      go_wp2_with fail
      with_reducible refine C1.mono ?_
      rintro e w5 ⟨rfl, hb5⟩
      have C2 := HC2.out w5
      have hbr5 := hbr.trans (hb5.mono hbr.size)
      clear C1 hb5
      go_wp2_with fail
      with_reducible refine C2.mono ?_
      rintro e w6 ⟨rfl, hb6⟩
      have hbr6 := hbr5.trans (hb6.mono hbr5.size)
      clear C2 hb6 HC2
      go_wp2
      go_roundg (P.length - (i + 1))
      case measure => omega
      case rel => exact ⟨i + 1, f, by rw [HZ2.out], by omega, by omega, by omega, HF2, hbr6⟩
    · have hF := HF.out
      have hiR : i = R := by
        cases f with
        | zero =>
          rw [shwF] at hF
          exact hF
        | succ f =>
          rw [shwF, if_neg hc] at hF
          exact hF
      subst hiR
      obtain ⟨a1, ha1⟩ : ∃ z, toC P i1 - toC P i = z := ⟨_, rfl⟩
      have HA1 := hid ha1
      rw [ha1] at hc C1
      have q1 : (off P i : Int) ≤ (z3 : Int) := by omega
      have q2 : (z3 : Int) ≤ (b.size : Int) := by omega
      have q3 : ¬ (n : Int) ≤ (a1 : Int) := by omega
      clear hF HF ha1
      go_wp2_with fail
      with_reducible refine C1.mono ?_
      rintro e w5 ⟨rfl, hb5⟩
      have hbr5 := hbr.trans (hb5.mono hbr.size)
      clear C1 hb5
      have hUl := HU.out.2.1
      have oR := HOM.out i U HU.out.1
      have oU := HOE.out U
      have CF := fun (X : World) => HC.out (off P i) z3 X
      have hxx := (HX.out i i1 hi hi1).1
      rw [HZ3.out] at hxx
      rw [hxx, HA1.out] at CF
      have HCF := hid CF
      obtain ⟨zR, hzR⟩ : ∃ z, off P i = z := ⟨_, rfl⟩
      obtain ⟨zU, hzU⟩ : ∃ z, off P U = z := ⟨_, rfl⟩
      have HZR := hid hzR
      have HZU := hid hzU
      rw [hzR] at HCF oR q1
      rw [hzU] at oR oU
      rw [hzR]
      clear hxx CF hzR hzU p1 p2 p3
      go_wp2
      go_loopg [11, 12] P.length (fun gh v11 v12 wr => ∃ j : Nat, v11 = .int .i64 (off P j : Int) ∧ v12 = .int .i64 (off P j : Int) ∧ i ≤ j ∧ j ≤ U ∧ P.length - j ≤ gh ∧ Below w.heap.size w wr)
      case atStart => exact ⟨i, by rw [HZR.out], by rw [HZR.out], by omega, HU.out.1, by omega, hbr5⟩
      case round =>
        obtain ⟨j, rfl, rfl, hij, hjU, hgh, hbr⟩ := hrel
        have fin : ∀ e : Nat, e = zU → ∀ w9, Below w.heap.size w w9 → (Value.tuple #[.string (b.extract zR e), .int .i64 (a1 : Int), .int .i64 0]) = .tuple #[.string (b.extract (off P i) (off P U)), .int .i64 ((toC P i1 - toC P i : Nat) : Int), .int .i64 0] ∧ Below w.heap.size w w9 := fun e he w9 h9 => ⟨by rw [he, HZR.out, HZU.out, HA1.out], h9⟩
        have HFI := hid fin
        clear fin
        by_cases hlt : off P j < B
        · have hjl : j < P.length := by
            false_or_by_contra
            have : j = P.length := by omega
            subst this
            have := HOF.out
            have := HBB.out
            omega
          have C1 := HN.out j wr hjl
          have C2 := fun w1 => HC.out (off P i) (off P (j + 1)) w1
          rw [(HX.out i (j + 1) (by omega) (by omega)).1] at C2
          have o1 := HOM.out i (j + 1) (by omega)
          have o2 := HOE.out (j + 1)
          obtain ⟨h1, h2, h3, h4, h5⟩ := HU.out
          have hdec : toC P (j + 1) - toC P i ≤ n ↔ j + 1 ≤ U := by
            constructor
            · intro q
              false_or_by_contra
              have hUj : U = j := by omega
              rcases h5 with h5 | h5 | h5
              · omega
              · rw [hUj] at h5
                omega
              · rw [hUj] at h5
                omega
            · intro q
              have := HTM.out (j + 1) U q h2
              omega
          obtain ⟨d, hd⟩ : ∃ d, toC P (j + 1) - toC P i = d := ⟨_, rfl⟩
          rw [hd] at C2 hdec
          obtain ⟨y2, hy⟩ : ∃ z, off P (j + 1) = z := ⟨_, rfl⟩
          obtain ⟨x2, hx⟩ : ∃ z, off P j = z := ⟨_, rfl⟩
          rw [hy] at C1 C2 o1 o2
          rw [HZR.out] at C2 o1
          rw [hx] at C1 hlt
          rw [hx]
          have q4 : (x2 : Int) < (B : Int) := by omega
          have q5 : (zR : Int) ≤ (y2 : Int) := by omega
          have q6 : (y2 : Int) ≤ (b.size : Int) := by omega
          have HY := hid hy
          have HX2 := hid hx
          have HC2 := hid C2
          clear h1 h2 h3 h4 h5 hd hy hx C2 hlt
          by_cases hdm : d ≤ n
          · have hju := hdec.1 hdm
            have q7 : ¬ (n : Int) < (d : Int) := by omega
            clear hdec HFI
            go_wp2_with fail
            with_reducible refine C1.mono ?_
            rintro e w6 ⟨rfl, hb6⟩
            have C2 := HC2.out w6
            go_wp2_with fail
            with_reducible refine C2.mono ?_
            rintro e w7 ⟨rfl, hb7⟩
            have hb8 := (hbr.trans (hb6.mono hbr.size)).trans (hb7.mono (hbr.trans (hb6.mono hbr.size)).size)
            go_wp2
            go_roundg (P.length - (j + 1))
            case measure => omega
            case rel => exact ⟨j + 1, by rw [HY.out], by rw [HY.out], by omega, by omega, by omega, hb8⟩
          · have hju : j = U := by
              have : ¬ j + 1 ≤ U := fun h => hdm (hdec.2 h)
              omega
            have q7 : (n : Int) < (d : Int) := by omega
            have hxU : x2 = zU := by rw [← HX2.out, ← HZU.out, hju]
            have HFI2 := hid (HFI.out x2 hxU)
            have r1 : (zR : Int) ≤ (x2 : Int) := by omega
            have r2 : (x2 : Int) ≤ (b.size : Int) := by omega
            clear hdec HFI hju hxU
            go_wp2_with fail
            with_reducible refine C1.mono ?_
            rintro e w6 ⟨rfl, hb6⟩
            have C2 := HC2.out w6
            go_wp2_with fail
            with_reducible refine C2.mono ?_
            rintro e w7 ⟨rfl, hb7⟩
            have hb8 := (hbr.trans (hb6.mono hbr.size)).trans (hb7.mono (hbr.trans (hb6.mono hbr.size)).size)
            clear C2 C1 HC2 hb7 hb6
            have CF := fun X : Ext w7 => HCF.out (ext X)
            go_wp2
            refine region_ext mixed (by kernel_rfl) ?_
            (repeat (go_big_quiet_step (first | (go_at_call 47; with_reducible exact in_ext (CF _)))))
            refine wpQuiet_nil ?_
            intro w9 hb9
            go_wp2
            have hF9 := HFI2.out w9 (hb8.trans (hb9.mono hb8.size))
            refine bodyPost_ret (v := .tuple #[.string (b.extract zR x2), .int .i64 (a1 : Int), .int .i64 0]) (by simp [results, Tryz.results18, go_sem, *]) rfl ⟨by rw [hF9.1], hF9.2⟩
        · have hju : j = U := by
            false_or_by_contra
            exact hlt (HU.out.2.2.2.1 j hij (by omega))
          subst hju
          rw [HZU.out] at hlt
          rw [HZU.out]
          have HFI2 := hid (HFI.out zU rfl)
          have q4 : ¬ (zU : Int) < (B : Int) := by omega
          have r1 : (zR : Int) ≤ (zU : Int) := by omega
          have r2 : (zU : Int) ≤ (b.size : Int) := by omega
          have CF := fun X : Ext wr => HCF.out (ext X)
          clear hlt HFI
          go_wp2
          refine region_ext mixed (by kernel_rfl) ?_
          (repeat (go_big_quiet_step (first | (go_at_call 47; with_reducible exact in_ext (CF _)))))
          refine wpQuiet_nil ?_
          intro w9 hb9
          go_wp2
          have hF9 := HFI2.out w9 (hbr.trans (hb9.mono hbr.size))
          refine bodyPost_ret (v := .tuple #[.string (b.extract zR zU), .int .i64 (a1 : Int), .int .i64 0]) (by simp [results, Tryz.results18, go_sem, *]) rfl ⟨by rw [hF9.1], hF9.2⟩
end
end Go.Proofs.YtcfgpmmclijonaaGreatDoor

/- Layer 25, the reference: Key, of ctrl+z, ctrl+y and ctrl+shift+z. -/
namespace Go.Proofs.YtcfgpmmclijonaaGreatDoor
set_option linter.unusedVariables false
set_option linter.unusedSimpArgs false
set_option maxRecDepth 100000
open Go.RowKit Go.Shelf Go.Lib
set_option maxRecDepth 100000
set_option maxHeartbeats 8000000

theorem rKey_undo {Q : Bool → World → Prop} {w : World} {base g : Nat} {b : ByteArray} {x y : Nat} {Bs Os : List Stp} {Bk On : Value} (hT : Tabs w) (h : RdS w base g b x y Bs Os Bk On) (hb : b.size ≤ 65536) (hx : x ≤ b.size)
    (hQ : ∀ w1, Below w.heap.size w w1 → Calls Tryz.prog 14 #[.pointer (some ⟨g, 0, none⟩)] w1 fun e w' => ∃ o, e = .returned (.bool o) ∧ Q o w') :
    Calls Tryz.prog 10 #[.pointer (some ⟨g, 0, none⟩), .agg #[.string ⟨#[122]⟩, .int .u8 2]] w fun e w' => ∃ o, e = .returned (.tuple #[.bool o, .int .i64 0]) ∧ Q o w' := by
  obtain ⟨W, hW⟩ : ∃ W, w.alloc (.cells #[.string ⟨#[122]⟩, .int .u8 2] 32) = W := ⟨_, rfl⟩
  have hB : Below w.heap.size w W := by
    rw [← hW]
    exact (Below.refl _ _).alloc (Nat.le_refl _) _
  have n1 : W.heap[w.heap.size]? = some (.cells #[.string ⟨#[122]⟩, .int .u8 2] 32 (0, 0)) := by
    rw [← hW]
    exact World.alloc_heap_new _ _
  have C := rmay_any ⟨#[122]⟩ 2 W (tabs_on hT hB) (by decide)
  rw [show mayB ⟨(⟨#[122]⟩ : ByteArray).data.toList, 2⟩ = true by decide +kernel, show ((2 : Nat) : Int) = 2 from rfl] at C
  have hsz := hB.size
  have lg := h.at_.lt
  have HQ := hid hQ
  have HW := hid hW
  have HT := hid (tabs_on hT hB)
  have HE := hid (h.on hB)
  have HB := hid hB
  have N1 := hid n1
  clear h hT hW n1 hB hQ
  go_enter Tryz.func10, Tryz.ntmps10
  go_wp2_with fail
  rw [HW.out]
  have k0 : W.cell? ⟨w.heap.size, 0, none⟩ = some (.string ⟨#[122]⟩) := by rw [blk_cell N1.out]; rfl
  have k1 : W.cell? ⟨w.heap.size, 1, none⟩ = some (.int .u8 2) := by rw [blk_cell N1.out]; rfl
  go_wp2_with fail
  with_reducible refine C.mono ?_
  rintro e w1 ⟨rfl, hb1⟩
  obtain ⟨W2, hW2⟩ : ∃ W2, w1.alloc (.cells #[.string b, .int .i64 (x : Int), .int .i64 (y : Int)] 39) = W2 := ⟨_, rfl⟩
  have hB2 : Below W.heap.size W W2 := by
    rw [← hW2]
    exact hb1.alloc hb1.size _
  have hs2 := hb1.size
  have lW := lt_of_block N1.out
  have nW2 := (hB2.block _ lW).trans N1.out
  have hR1 := HE.out.on hb1
  have hR2 := HE.out.on hB2
  have j0 : w1.cell? ⟨w.heap.size, 0, none⟩ = some (.string ⟨#[122]⟩) := by rw [blk_cell ((hb1.block _ lW).trans N1.out)]; rfl
  have j1 : w1.cell? ⟨w.heap.size, 1, none⟩ = some (.int .u8 2) := by rw [blk_cell ((hb1.block _ lW).trans N1.out)]; rfl
  obtain ⟨c0, c1, c2, c3, c4⟩ := hR1.at_.cells
  have lg1 := hR1.at_.lt
  have lk1 : w.heap.size < w1.heap.size := by omega
  have CG := regoes_any hR2.at_ (tabs_on HT.out hB2) (by omega) hx ⟨#[122]⟩ 2 false true false _ _ _ rfl (by decide) rfl (by decide) rfl (by decide)
  rw [show goesE b x y ⟨#[122]⟩ false true (!false && !true) = none by simp [goesE, goesJ], show ((2 : Nat) : Int) = 2 from rfl] at CG
  simp only [Option.isSome_none] at CG
  have HW2 := hid hW2
  have HN2 := hid nW2
  have HB2 := hid (HB.out.trans (hB2.mono HB.out.size))
  clear C k0 k1 hb1 hW2 hB2 hR1 hR2 HE N1 HW HB HT nW2
  go_wp2_with fail
  rw [HW2.out]
  clear j0 j1 c0 c1 c2 c3 c4 HW2
  with_reducible refine CG.mono ?_
  rintro e w3 ⟨z', rfl, hz', hb3⟩
  have n3 := (hb3.block _ (lt_of_block HN2.out)).trans HN2.out
  have hB3 := HB2.out.trans (hb3.mono HB2.out.size)
  have k0 : w3.cell? ⟨w.heap.size, 0, none⟩ = some (.string ⟨#[122]⟩) := by rw [blk_cell n3]; rfl
  have k1 : w3.cell? ⟨w.heap.size, 1, none⟩ = some (.int .u8 2) := by rw [blk_cell n3]; rfl
  have CT := retyped_any ⟨#[122]⟩ 2 w3 (by decide) (by decide) true _ rfl (by decide)
  rw [show typedE ⟨#[122]⟩ true = ⟨#[]⟩ from rfl, show ((2 : Nat) : Int) = 2 from rfl] at CT
  have HN3 := hid n3
  have HB3 := hid hB3
  clear hb3 hz' CG HB2 HN2 n3 hB3
  go_wp2_with fail
  with_reducible refine CT.mono ?_
  rintro e w4 ⟨rfl, hb4⟩
  have n4 := (hb4.block _ (lt_of_block HN3.out)).trans HN3.out
  have hB4 := HB3.out.trans (hb4.mono HB3.out.size)
  have CU := HQ.out w4 hB4
  clear k0 k1
  have k0 : w4.cell? ⟨w.heap.size, 0, none⟩ = some (.string ⟨#[122]⟩) := by rw [blk_cell n4]; rfl
  have k1 : w4.cell? ⟨w.heap.size, 1, none⟩ = some (.int .u8 2) := by rw [blk_cell n4]; rfl
  clear CT hb4 n4 hB4 HN3 HB3 HQ
  go_wp2_with fail
  with_reducible refine CU.mono ?_
  rintro e w5 ⟨o, rfl, hq⟩
  have HQ5 := hid hq
  clear CU hq
  go_wp2
  refine bodyPost_ret (v := .tuple #[.bool o, .int .i64 0]) (by simp [results, Tryz.results10, go_sem, *]) rfl ⟨o, rfl, HQ5.out⟩
theorem rKey_redo {Q : Bool → World → Prop} {w : World} {base g : Nat} {b : ByteArray} {x y : Nat} {Bs Os : List Stp} {Bk On : Value} (hT : Tabs w) (h : RdS w base g b x y Bs Os Bk On) (hb : b.size ≤ 65536) (hx : x ≤ b.size)
    (hQ : ∀ w1, Below w.heap.size w w1 → Calls Tryz.prog 16 #[.pointer (some ⟨g, 0, none⟩)] w1 fun e w' => ∃ o, e = .returned (.bool o) ∧ Q o w') :
    Calls Tryz.prog 10 #[.pointer (some ⟨g, 0, none⟩), .agg #[.string ⟨#[121]⟩, .int .u8 2]] w fun e w' => ∃ o, e = .returned (.tuple #[.bool o, .int .i64 0]) ∧ Q o w' := by
  obtain ⟨W, hW⟩ : ∃ W, w.alloc (.cells #[.string ⟨#[121]⟩, .int .u8 2] 32) = W := ⟨_, rfl⟩
  have hB : Below w.heap.size w W := by
    rw [← hW]
    exact (Below.refl _ _).alloc (Nat.le_refl _) _
  have n1 : W.heap[w.heap.size]? = some (.cells #[.string ⟨#[121]⟩, .int .u8 2] 32 (0, 0)) := by
    rw [← hW]
    exact World.alloc_heap_new _ _
  have C := rmay_any ⟨#[121]⟩ 2 W (tabs_on hT hB) (by decide)
  rw [show mayB ⟨(⟨#[121]⟩ : ByteArray).data.toList, 2⟩ = true by decide +kernel, show ((2 : Nat) : Int) = 2 from rfl] at C
  have hsz := hB.size
  have lg := h.at_.lt
  have HQ := hid hQ
  have HW := hid hW
  have HT := hid (tabs_on hT hB)
  have HE := hid (h.on hB)
  have HB := hid hB
  have N1 := hid n1
  clear h hT hW n1 hB hQ
  go_enter Tryz.func10, Tryz.ntmps10
  go_wp2_with fail
  rw [HW.out]
  have k0 : W.cell? ⟨w.heap.size, 0, none⟩ = some (.string ⟨#[121]⟩) := by rw [blk_cell N1.out]; rfl
  have k1 : W.cell? ⟨w.heap.size, 1, none⟩ = some (.int .u8 2) := by rw [blk_cell N1.out]; rfl
  go_wp2_with fail
  with_reducible refine C.mono ?_
  rintro e w1 ⟨rfl, hb1⟩
  obtain ⟨W2, hW2⟩ : ∃ W2, w1.alloc (.cells #[.string b, .int .i64 (x : Int), .int .i64 (y : Int)] 39) = W2 := ⟨_, rfl⟩
  have hB2 : Below W.heap.size W W2 := by
    rw [← hW2]
    exact hb1.alloc hb1.size _
  have hs2 := hb1.size
  have lW := lt_of_block N1.out
  have nW2 := (hB2.block _ lW).trans N1.out
  have hR1 := HE.out.on hb1
  have hR2 := HE.out.on hB2
  have j0 : w1.cell? ⟨w.heap.size, 0, none⟩ = some (.string ⟨#[121]⟩) := by rw [blk_cell ((hb1.block _ lW).trans N1.out)]; rfl
  have j1 : w1.cell? ⟨w.heap.size, 1, none⟩ = some (.int .u8 2) := by rw [blk_cell ((hb1.block _ lW).trans N1.out)]; rfl
  obtain ⟨c0, c1, c2, c3, c4⟩ := hR1.at_.cells
  have lg1 := hR1.at_.lt
  have lk1 : w.heap.size < w1.heap.size := by omega
  have CG := regoes_any hR2.at_ (tabs_on HT.out hB2) (by omega) hx ⟨#[121]⟩ 2 false true false _ _ _ rfl (by decide) rfl (by decide) rfl (by decide)
  rw [show goesE b x y ⟨#[121]⟩ false true (!false && !true) = none by simp [goesE, goesJ], show ((2 : Nat) : Int) = 2 from rfl] at CG
  simp only [Option.isSome_none] at CG
  have HW2 := hid hW2
  have HN2 := hid nW2
  have HB2 := hid (HB.out.trans (hB2.mono HB.out.size))
  clear C k0 k1 hb1 hW2 hB2 hR1 hR2 HE N1 HW HB HT nW2
  go_wp2_with fail
  rw [HW2.out]
  clear j0 j1 c0 c1 c2 c3 c4 HW2
  with_reducible refine CG.mono ?_
  rintro e w3 ⟨z', rfl, hz', hb3⟩
  have n3 := (hb3.block _ (lt_of_block HN2.out)).trans HN2.out
  have hB3 := HB2.out.trans (hb3.mono HB2.out.size)
  have k0 : w3.cell? ⟨w.heap.size, 0, none⟩ = some (.string ⟨#[121]⟩) := by rw [blk_cell n3]; rfl
  have k1 : w3.cell? ⟨w.heap.size, 1, none⟩ = some (.int .u8 2) := by rw [blk_cell n3]; rfl
  have CT := retyped_any ⟨#[121]⟩ 2 w3 (by decide) (by decide) true _ rfl (by decide)
  rw [show typedE ⟨#[121]⟩ true = ⟨#[]⟩ from rfl, show ((2 : Nat) : Int) = 2 from rfl] at CT
  have HN3 := hid n3
  have HB3 := hid hB3
  clear hb3 hz' CG HB2 HN2 n3 hB3
  go_wp2_with fail
  with_reducible refine CT.mono ?_
  rintro e w4 ⟨rfl, hb4⟩
  have n4 := (hb4.block _ (lt_of_block HN3.out)).trans HN3.out
  have hB4 := HB3.out.trans (hb4.mono HB3.out.size)
  have CU := HQ.out w4 hB4
  clear k0 k1
  have k0 : w4.cell? ⟨w.heap.size, 0, none⟩ = some (.string ⟨#[121]⟩) := by rw [blk_cell n4]; rfl
  have k1 : w4.cell? ⟨w.heap.size, 1, none⟩ = some (.int .u8 2) := by rw [blk_cell n4]; rfl
  clear CT hb4 n4 hB4 HN3 HB3 HQ
  go_wp2_with fail
  with_reducible refine CU.mono ?_
  rintro e w5 ⟨o, rfl, hq⟩
  have HQ5 := hid hq
  clear CU hq
  go_wp2
  refine bodyPost_ret (v := .tuple #[.bool o, .int .i64 0]) (by simp [results, Tryz.results10, go_sem, *]) rfl ⟨o, rfl, HQ5.out⟩
theorem rKey_again {Q : Bool → World → Prop} {w : World} {base g : Nat} {b : ByteArray} {x y : Nat} {Bs Os : List Stp} {Bk On : Value} (hT : Tabs w) (h : RdS w base g b x y Bs Os Bk On) (hb : b.size ≤ 65536) (hx : x ≤ b.size)
    (hQ : ∀ w1, Below w.heap.size w w1 → Calls Tryz.prog 16 #[.pointer (some ⟨g, 0, none⟩)] w1 fun e w' => ∃ o, e = .returned (.bool o) ∧ Q o w') :
    Calls Tryz.prog 10 #[.pointer (some ⟨g, 0, none⟩), .agg #[.string ⟨#[122]⟩, .int .u8 3]] w fun e w' => ∃ o, e = .returned (.tuple #[.bool o, .int .i64 0]) ∧ Q o w' := by
  obtain ⟨W, hW⟩ : ∃ W, w.alloc (.cells #[.string ⟨#[122]⟩, .int .u8 3] 32) = W := ⟨_, rfl⟩
  have hB : Below w.heap.size w W := by
    rw [← hW]
    exact (Below.refl _ _).alloc (Nat.le_refl _) _
  have n1 : W.heap[w.heap.size]? = some (.cells #[.string ⟨#[122]⟩, .int .u8 3] 32 (0, 0)) := by
    rw [← hW]
    exact World.alloc_heap_new _ _
  have C := rmay_any ⟨#[122]⟩ 3 W (tabs_on hT hB) (by decide)
  rw [show mayB ⟨(⟨#[122]⟩ : ByteArray).data.toList, 3⟩ = true by decide +kernel, show ((3 : Nat) : Int) = 3 from rfl] at C
  have hsz := hB.size
  have lg := h.at_.lt
  have HQ := hid hQ
  have HW := hid hW
  have HT := hid (tabs_on hT hB)
  have HE := hid (h.on hB)
  have HB := hid hB
  have N1 := hid n1
  clear h hT hW n1 hB hQ
  go_enter Tryz.func10, Tryz.ntmps10
  go_wp2_with fail
  rw [HW.out]
  have k0 : W.cell? ⟨w.heap.size, 0, none⟩ = some (.string ⟨#[122]⟩) := by rw [blk_cell N1.out]; rfl
  have k1 : W.cell? ⟨w.heap.size, 1, none⟩ = some (.int .u8 3) := by rw [blk_cell N1.out]; rfl
  go_wp2_with fail
  with_reducible refine C.mono ?_
  rintro e w1 ⟨rfl, hb1⟩
  obtain ⟨W2, hW2⟩ : ∃ W2, w1.alloc (.cells #[.string b, .int .i64 (x : Int), .int .i64 (y : Int)] 39) = W2 := ⟨_, rfl⟩
  have hB2 : Below W.heap.size W W2 := by
    rw [← hW2]
    exact hb1.alloc hb1.size _
  have hs2 := hb1.size
  have lW := lt_of_block N1.out
  have nW2 := (hB2.block _ lW).trans N1.out
  have hR1 := HE.out.on hb1
  have hR2 := HE.out.on hB2
  have j0 : w1.cell? ⟨w.heap.size, 0, none⟩ = some (.string ⟨#[122]⟩) := by rw [blk_cell ((hb1.block _ lW).trans N1.out)]; rfl
  have j1 : w1.cell? ⟨w.heap.size, 1, none⟩ = some (.int .u8 3) := by rw [blk_cell ((hb1.block _ lW).trans N1.out)]; rfl
  obtain ⟨c0, c1, c2, c3, c4⟩ := hR1.at_.cells
  have lg1 := hR1.at_.lt
  have lk1 : w.heap.size < w1.heap.size := by omega
  have CG := regoes_any hR2.at_ (tabs_on HT.out hB2) (by omega) hx ⟨#[122]⟩ 3 false true true _ _ _ rfl (by decide) rfl (by decide) rfl (by decide)
  rw [show goesE b x y ⟨#[122]⟩ false true (!true && !true) = none by simp [goesE, goesJ], show ((3 : Nat) : Int) = 3 from rfl] at CG
  simp only [Option.isSome_none] at CG
  have HW2 := hid hW2
  have HN2 := hid nW2
  have HB2 := hid (HB.out.trans (hB2.mono HB.out.size))
  clear C k0 k1 hb1 hW2 hB2 hR1 hR2 HE N1 HW HB HT nW2
  go_wp2_with fail
  rw [HW2.out]
  clear j0 j1 c0 c1 c2 c3 c4 HW2
  with_reducible refine CG.mono ?_
  rintro e w3 ⟨z', rfl, hz', hb3⟩
  have n3 := (hb3.block _ (lt_of_block HN2.out)).trans HN2.out
  have hB3 := HB2.out.trans (hb3.mono HB2.out.size)
  have k0 : w3.cell? ⟨w.heap.size, 0, none⟩ = some (.string ⟨#[122]⟩) := by rw [blk_cell n3]; rfl
  have k1 : w3.cell? ⟨w.heap.size, 1, none⟩ = some (.int .u8 3) := by rw [blk_cell n3]; rfl
  have CT := retyped_any ⟨#[122]⟩ 3 w3 (by decide) (by decide) true _ rfl (by decide)
  rw [show typedE ⟨#[122]⟩ true = ⟨#[]⟩ from rfl, show ((3 : Nat) : Int) = 3 from rfl] at CT
  have HN3 := hid n3
  have HB3 := hid hB3
  clear hb3 hz' CG HB2 HN2 n3 hB3
  go_wp2_with fail
  with_reducible refine CT.mono ?_
  rintro e w4 ⟨rfl, hb4⟩
  have n4 := (hb4.block _ (lt_of_block HN3.out)).trans HN3.out
  have hB4 := HB3.out.trans (hb4.mono HB3.out.size)
  have CU := HQ.out w4 hB4
  clear k0 k1
  have k0 : w4.cell? ⟨w.heap.size, 0, none⟩ = some (.string ⟨#[122]⟩) := by rw [blk_cell n4]; rfl
  have k1 : w4.cell? ⟨w.heap.size, 1, none⟩ = some (.int .u8 3) := by rw [blk_cell n4]; rfl
  clear CT hb4 n4 hB4 HN3 HB3 HQ
  go_wp2_with fail
  with_reducible refine CU.mono ?_
  rintro e w5 ⟨o, rfl, hq⟩
  have HQ5 := hid hq
  clear CU hq
  go_wp2
  refine bodyPost_ret (v := .tuple #[.bool o, .int .i64 0]) (by simp [results, Tryz.results10, go_sem, *]) rfl ⟨o, rfl, HQ5.out⟩
end Go.Proofs.YtcfgpmmclijonaaGreatDoor
