/- Layer 25, the reference: Undo, Redo. -/
import Derived.Test.YtcfgpmmclijonaaGreatDoorErB
import Derived.Test.YtcfgpmmclijonaaGreatDoorEdRt
namespace Go.Proofs.YtcfgpmmclijonaaGreatDoor
set_option linter.unusedVariables false
set_option linter.unusedSimpArgs false
set_option maxRecDepth 100000
open Go.RowKit Go.Shelf Go.Lib
set_option maxRecDepth 100000
set_option maxHeartbeats 8000000

theorem sts_last (L : List Stp) (s : Stp) (j : Nat) : (sts (L ++ [s]))[L.length * 6 + j]? = (stV s)[j]? := by
  rw [sts_snoc, List.getElem?_append_right (by rw [sts_len]; omega), sts_len, Nat.add_sub_cancel_left]
  simp
section
variable {w : World} {base g : Nat} {b : ByteArray} {x y : Nat} {Bs Os : List Stp} {Bk On : Value} {s : Stp}
theorem rUndo_none (h : RdS w base g b x y [] Os Bk On) : Calls Tryz.prog 14 #[.pointer (some ⟨g, 0, none⟩)] w fun e w' => e = .returned (.bool false) ∧ Below w.heap.size w w' := by
  obtain ⟨c0, c1, c2, c3, c4⟩ := h.at_.cells
  have lg := h.at_.lt
  obtain ⟨A, c, rfl⟩ := h.wb.shape
  clear h
  go_enter Tryz.func14, Tryz.ntmps14
  go_wp2
  go_ret
  exact ⟨rfl, Below.refl _ _⟩
theorem rRedo_none (h : RdS w base g b x y Bs [] Bk On) : Calls Tryz.prog 16 #[.pointer (some ⟨g, 0, none⟩)] w fun e w' => e = .returned (.bool false) ∧ Below w.heap.size w w' := by
  obtain ⟨c0, c1, c2, c3, c4⟩ := h.at_.cells
  have lg := h.at_.lt
  obtain ⟨A, c, rfl⟩ := h.wo.shape
  clear h
  go_enter Tryz.func16, Tryz.ntmps16
  go_wp2
  go_ret
  exact ⟨rfl, Below.refl _ _⟩
theorem RdS.pushO {w wd wz : World} {base g n : Nat} {b : ByteArray} {x y : Nat} {Bs Os : List Stp} {Bk On v' : Value} {xs : List Value} (h : RdS w base g b x y Bs Os Bk On) (hD : Below w.heap.size w wd) (j1 : Win wz base v' n xs) (j2 : wd.grownBy wz On.ownBlock) (j3 : ∀ k, v'.ownBlock = some k → On.ownBlock = some k ∨ wd.heap.size ≤ k) (hzg : RdAt wz g b x y Bk On) :
    RdAt (wz.setCell ⟨g, 4, none⟩ v') g b x y Bk v' ∧ Win (wz.setCell ⟨g, 4, none⟩ v') base v' n xs ∧ Win (wz.setCell ⟨g, 4, none⟩ v') base Bk Bs.length (sts Bs) ∧ Turn (RFoot g Bk On) w (wz.setCell ⟨g, 4, none⟩ v') ∧ (∀ k, v'.ownBlock = some k → On.ownBlock = some k ∨ w.heap.size ≤ k) ∧ (∀ k, Bk.ownBlock = some k → v'.ownBlock ≠ some k) := by
  have hsz := hD.size
  have hwb : Win wz base Bk Bs.length (sts Bs) := (h.wb.on hD).same fun k hk => j2.block k ((h.wb.on hD).lt k hk).2 (fun e => h.ap k hk e.symm)
  refine ⟨store_in hzg, j1.same fun k hk => heap_setCell_other _ _ _ _ (fun e => ?_), hwb.same fun k hk => heap_setCell_other _ _ _ _ (fun e => ?_), ((Turn.of_below hD).trans (Turn.grown j2 (fun k hk => .inr (.inr hk)))).trans (Turn.set (p := ⟨g, 4, none⟩) (.inl rfl) _), fun k hk => ?_, fun k hk e => ?_⟩
  · exact j1.ne hzg (by decide) (by rw [hk, e])
  · exact hwb.ne hzg (by decide) (by rw [hk, e])
  · rcases j3 k hk with h1 | h1
    · exact .inl h1
    · exact .inr (by omega)
  · rcases j3 k e with h1 | h1
    · exact h.ap k hk h1
    · have := (h.wb.lt k hk).2
      omega
def RUn (w : World) (base g : Nat) (Bs Os : List Stp) (Bk On : Value) (s : Stp) (t : Tx) (e : Ending) (w' : World) : Prop := ∃ Bk' On', e = .returned (.bool true) ∧ RdS w' base g t.b t.x t.y Bs Os Bk' On' ∧ Turn (RFoot g Bk On) w w' ∧
  (∀ k, Bk'.ownBlock = some k → Bk.ownBlock = some k ∨ w.heap.size ≤ k) ∧ (∀ k, On'.ownBlock = some k → On.ownBlock = some k ∨ w.heap.size ≤ k)
theorem rUndo_any (h : RdS w base g b x y (Bs ++ [s]) Os Bk On) (hbase : base ≤ g) (hk : Bs.length ≤ 300) (hm : Os.length ≤ 300) :
    Calls Tryz.prog 14 #[.pointer (some ⟨g, 0, none⟩)] w (RUn w base g Bs (Os ++ [s]) Bk On s s.u) := by
  have hln : (Bs ++ [s]).length = Bs.length + 1 := by rw [List.length_append]; rfl
  obtain ⟨c0, c1, c2, c3, c4⟩ := h.at_.cells
  have lg := h.at_.lt
  have HH := hid h
  have hwb := h.wb
  rw [hln] at hwb
  rcases hwb.2 with ⟨_, h0⟩ | ⟨g1, off, cap, cur, rfl, hb1, hh1, hc1, hsz1, hx1⟩
  · omega
  have hcell : ∀ j, j < 6 → w.cell? ⟨g1, off + Bs.length * 6 + j, none⟩ = (stV s)[j]? := fun j hj => by
    rw [blk_cell hh1, Nat.add_assoc]
    have h1 := sts_last Bs s j
    obtain ⟨u, hu⟩ : ∃ u, (stV s)[j]? = some u := ⟨_, Array.getElem?_eq_getElem (show j < (stV s).size from hj)⟩
    rw [hu] at h1 ⊢
    exact hx1 _ _ h1
  have d0 : w.cell? ⟨g1, off + Bs.length * 6, none⟩ = some (.string s.u.b) := hcell 0 (by omega)
  have d1 : w.cell? ⟨g1, off + Bs.length * 6 + 1, none⟩ = some (.int .i64 (s.u.x : Int)) := hcell 1 (by omega)
  have d2 : w.cell? ⟨g1, off + Bs.length * 6 + 2, none⟩ = some (.int .i64 (s.u.y : Int)) := hcell 2 (by omega)
  have d3 : w.cell? ⟨g1, off + Bs.length * 6 + 3, none⟩ = some (.string s.v.b) := hcell 3 (by omega)
  have d4 : w.cell? ⟨g1, off + Bs.length * 6 + 4, none⟩ = some (.int .i64 (s.v.x : Int)) := hcell 4 (by omega)
  have d5 : w.cell? ⟨g1, off + Bs.length * 6 + 5, none⟩ = some (.int .i64 (s.v.y : Int)) := hcell 5 (by omega)
  have lg1 := lt_of_block hh1
  have r1 : (Bs.length : Int) + 1 - 1 = (Bs.length : Int) := by omega
  have r2 : ¬ (Bs.length : Int) + 1 = 0 := by omega
  have r3 : (((Bs.length : Int) + 1) == 0) = false := beq_eq_false_iff_ne.2 r2
  have r4 : (Bs.length : Int) < (Bs.length : Int) + 1 := by omega
  have hcc : (Bs.length : Int) ≤ (cap : Int) := by omega
  have f3 := h.at_.free 3
  have HLN := hid hln
  clear h hwb hcell hh1 hsz1 hx1 hb1 hln
  go_enter Tryz.func14, Tryz.ntmps14
  obtain ⟨W, hW⟩ : ∃ W, (w.setCell ⟨g, 3, none⟩ (.slice (some ⟨g1, off, none⟩) Bs.length cap)).alloc (.cells #[.string s.u.b, .int .i64 (s.u.x : Int), .int .i64 (s.u.y : Int), .string s.v.b, .int .i64 (s.v.x : Int), .int .i64 (s.v.y : Int)] 75) = W := ⟨_, rfl⟩
  have hg3 : w.grownBy (w.setCell ⟨g, 3, none⟩ (.slice (some ⟨g1, off, none⟩) Bs.length cap)) (some g) := grown_cell (World.grownBy.refl _ _)
  have hbA := (Below.refl (w.setCell ⟨g, 3, none⟩ (.slice (some ⟨g1, off, none⟩) Bs.length cap)).heap.size (w.setCell ⟨g, 3, none⟩ (.slice (some ⟨g1, off, none⟩) Bs.length cap))).alloc (Nat.le_refl _) (.cells #[.string s.u.b, .int .i64 (s.u.x : Int), .int .i64 (s.u.y : Int), .string s.v.b, .int .i64 (s.v.x : Int), .int .i64 (s.v.y : Int)] 75)
  rw [hW] at hbA
  have hnw : W.heap[w.heap.size]? = some (.cells (stV s) 75 (0, 0)) := by
    rw [← hW]
    simpa [stV] using World.alloc_heap_new (w.setCell ⟨g, 3, none⟩ (.slice (some ⟨g1, off, none⟩) Bs.length cap)) (.cells #[.string s.u.b, .int .i64 (s.u.x : Int), .int .i64 (s.u.y : Int), .string s.v.b, .int .i64 (s.v.x : Int), .int .i64 (s.v.y : Int)] 75)
  have hwl := (HH.out.wb)
  rw [HLN.out] at hwl
  have hless := hwl.less (m := Bs.length) (by omega) (by omega)
  rw [sts_take] at hless
  have hgn : ∀ k, (Value.slice (some ⟨g1, off, none⟩) (Bs.length + 1) cap).ownBlock = some k → k ≠ g := fun k hk e => HH.out.wb.ne HH.out.at_ (by decide) (by rw [hk, e])
  have hR : RdS W base g b x y Bs Os (.slice (some ⟨g1, off, none⟩) Bs.length cap) On := by
    have h0 : RdS (w.setCell ⟨g, 3, none⟩ (.slice (some ⟨g1, off, none⟩) Bs.length cap)) base g b x y Bs Os (.slice (some ⟨g1, off, none⟩) Bs.length cap) On :=
      ⟨store_in HH.out.at_, hless.same fun k hk => heap_setCell_other _ _ _ _ (fun e => hgn k hk e), HH.out.wo.same fun k hk => heap_setCell_other _ _ _ _ (fun e => HH.out.wo.ne HH.out.at_ (by decide) (by rw [hk, e])), fun k hk => HH.out.ap k hk⟩
    exact h0.on hbA
  have hTW : Turn (RFoot g (.slice (some ⟨g1, off, none⟩) (Bs.length + 1) cap) On) w W := (Turn.grown hg3 (fun k hk => by injection hk with hk; exact .inl hk.symm)).trans (Turn.of_below hbA)
  have hsW : w.heap.size + 1 ≤ W.heap.size := by
    have := lt_of_block hnw
    omega
  have HW := hid hW
  have HR := hid hR
  have HNW := hid hnw
  have HTW := hid hTW
  clear hW hg3 hbA hnw hwl hless hgn hR hTW
  go_upto_region 6 with fail
  rw [HW.out]
  clear c0 c1 c2 c3 c4 f3 d0 d1 d2 d3 d4 d5 lg1
  go_cut [] from 30 to 39 (fun wx => ∃ On', RdAt wx g b x y (.slice (some ⟨g1, off, none⟩) Bs.length cap) On' ∧ Win wx base On' (Os.length + 1) (sts (Os ++ [s])) ∧ Win wx base (.slice (some ⟨g1, off, none⟩) Bs.length cap) Bs.length (sts Bs) ∧ Turn (RFoot g (.slice (some ⟨g1, off, none⟩) Bs.length cap) On) W wx ∧ (∀ k, On'.ownBlock = some k → On.ownBlock = some k ∨ W.heap.size ≤ k) ∧ (∀ k, (Value.slice (some ⟨g1, off, none⟩) Bs.length cap).ownBlock = some k → On'.ownBlock ≠ some k) ∧ wx.heap[w.heap.size]? = some (.cells (stV s) 75 (0, 0)))
  case first =>
    have hmx := mixed
    obtain ⟨c0, c1, c2, c3, c4⟩ := HR.out.at_.cells
    have f4 := HR.out.at_.free 4
    have lgW := HR.out.at_.lt
    have d0 : W.cell? ⟨w.heap.size, 0, none⟩ = some (.string s.u.b) := by rw [blk_cell HNW.out]; rfl
    have d1 : W.cell? ⟨w.heap.size, 1, none⟩ = some (.int .i64 (s.u.x : Int)) := by rw [blk_cell HNW.out]; rfl
    have d2 : W.cell? ⟨w.heap.size, 2, none⟩ = some (.int .i64 (s.u.y : Int)) := by rw [blk_cell HNW.out]; rfl
    have d3 : W.cell? ⟨w.heap.size, 3, none⟩ = some (.string s.v.b) := by rw [blk_cell HNW.out]; rfl
    have d4 : W.cell? ⟨w.heap.size, 4, none⟩ = some (.int .i64 (s.v.x : Int)) := by rw [blk_cell HNW.out]; rfl
    have d5 : W.cell? ⟨w.heap.size, 5, none⟩ = some (.int .i64 (s.v.y : Int)) := by rw [blk_cell HNW.out]; rfl
    have lb := lt_of_block HNW.out
    have hbD := ((Below.refl W.heap.size W).alloc (Nat.le_refl _) (.cells #[.string s.u.b, .int .i64 (s.u.x : Int), .int .i64 (s.u.y : Int), .string s.v.b, .int .i64 (s.v.x : Int), .int .i64 (s.v.y : Int)] 75)).drew
    have hgD : (W.alloc (.cells #[.string s.u.b, .int .i64 (s.u.x : Int), .int .i64 (s.u.y : Int), .string s.v.b, .int .i64 (s.v.x : Int), .int .i64 (s.v.y : Int)] 75)).drew.heap[W.heap.size]? = some (.cells (stV s) 75 (0, 0)) := World.alloc_heap_new W _
    have hbW : base ≤ (W.alloc (.cells #[.string s.u.b, .int .i64 (s.u.x : Int), .int .i64 (s.u.y : Int), .string s.v.b, .int .i64 (s.v.x : Int), .int .i64 (s.v.y : Int)] 75)).drew.heap.size := by
      have := hbD.size
      omega
    have HBD := hid hbD
    have HGD := hid hgD
    have HBW := hid hbW
    clear hbD hgD hbW
    go_region_law (refine step_win rfl (.tmp 34) (.tmp 36) rfl base Os.length On (sts Os) (by simp [Act.eval, Act.put]) (HR.out.wo.on HBD.out) W.heap.size (by simp [Act.eval, Act.put]) (stV s) rfl (stV_one _) HGD.out (by omega) HBW.out (fun v' wz j1 j2 j3 => ?_)
                   obtain ⟨A', cc, rfl⟩ := j1.shape
                   have hzg : RdAt wz g b x y (.slice (some ⟨g1, off, none⟩) Bs.length cap) On := by
                     have q := HR.out.at_.on HBD.out
                     have hne := (HR.out.wo.on HBD.out).ne q (by decide)
                     unfold RdAt at q ⊢
                     rw [j2.block g (lt_of_block q) (fun e => hne e.symm)]
                     exact q
                   obtain ⟨z0, z1, z2, z3, z4⟩ := hzg.cells
                   have zf := hzg.free 4
                   have zl := hzg.lt
                   have HZZ := hid (And.intro j1 (And.intro j2 (And.intro j3 hzg)))
                   clear j1 j2 j3 hzg)
    all_goals go_wp2
    all_goals go_meet
    all_goals
      obtain ⟨j1, j2, j3, hzg⟩ := HZZ.out
      obtain ⟨p1, p2, p3, p4, p5, p6⟩ := HR.out.pushO (n := Os.length + 1) (xs := sts (Os ++ [s])) HBD.out (by rw [sts_snoc]; exact j1) j2 j3 hzg
      refine ⟨_, p1, p2, p3, p4, p5, p6, ?_⟩
      rw [heap_setCell_other _ _ _ _ (fun e => Nat.lt_irrefl _ (e ▸ lg)), j2.block _ (Nat.lt_of_lt_of_le lb HBD.out.size) (fun e => Nat.lt_irrefl _ (HH.out.wo.lt _ e.symm).2), HBD.out.block _ lb]
      exact HNW.out
  case rest =>
    obtain ⟨On', m1, m2, m3, m4, m5, m6, m7⟩ := hcut
    have hB : RdS wc base g b x y Bs (Os ++ [s]) (.slice (some ⟨g1, off, none⟩) Bs.length cap) On' := ⟨m1, m3, by rw [List.length_append]; exact m2, m6⟩
    have hgr : wc.grownBy (((wc.setCell ⟨g, 0, none⟩ (.string s.u.b)).setCell ⟨g, 1, none⟩ (.int .i64 (s.u.x : Int))).setCell ⟨g, 2, none⟩ (.int .i64 (s.u.y : Int))) (some g) := grown_cell (grown_cell (grown_cell (World.grownBy.refl _ _)))
    have hfin : RUn w base g Bs (Os ++ [s]) (.slice (some ⟨g1, off, none⟩) (Bs.length + 1) cap) On s s.u (.returned (.bool true)) (((wc.setCell ⟨g, 0, none⟩ (.string s.u.b)).setCell ⟨g, 1, none⟩ (.int .i64 (s.u.x : Int))).setCell ⟨g, 2, none⟩ (.int .i64 (s.u.y : Int))) :=
      ⟨_, On', rfl, hB.text (store_in (store_in (store_in m1))) hgr, (HTW.out.trans m4).trans (Turn.grown hgr (fun k hk => by injection hk with hk; exact .inl hk.symm)), fun k hk => .inl hk, fun k hk => by rcases m5 k hk with h | h; exact .inl h; exact .inr (by omega)⟩
    obtain ⟨c0, c1, c2, c3, c4⟩ := m1.cells
    have f := m1.free
    have lgc := m1.lt
    have d0 : wc.cell? ⟨w.heap.size, 0, none⟩ = some (.string s.u.b) := by rw [blk_cell m7]; rfl
    have d1 : wc.cell? ⟨w.heap.size, 1, none⟩ = some (.int .i64 (s.u.x : Int)) := by rw [blk_cell m7]; rfl
    have d2 : wc.cell? ⟨w.heap.size, 2, none⟩ = some (.int .i64 (s.u.y : Int)) := by rw [blk_cell m7]; rfl
    have lb := lt_of_block m7
    have HFIN := hid hfin
    clear m1 m2 m3 m4 m5 m6 m7 hB hgr hfin
    go_wp2
    refine bodyPost_ret (v := .bool true) (by simp [results, Tryz.results14, go_sem, *]) rfl HFIN.out
end
end Go.Proofs.YtcfgpmmclijonaaGreatDoor

/- Layer 25, the reference: Redo. -/
namespace Go.Proofs.YtcfgpmmclijonaaGreatDoor
set_option linter.unusedVariables false
set_option linter.unusedSimpArgs false
set_option maxRecDepth 100000
open Go.RowKit Go.Shelf Go.Lib
set_option maxRecDepth 100000
set_option maxHeartbeats 8000000

theorem RdS.pushA {w wd : World} {base g : Nat} {b : ByteArray} {x y : Nat} {Bs Os : List Stp} {Bk On v' : Value} (h : RdS w base g b x y Bs Os Bk On) (hD : Below w.heap.size w wd) (j3 : ∀ k, v'.ownBlock = some k → Bk.ownBlock = some k ∨ wd.heap.size ≤ k) : ∀ k, v'.ownBlock = some k → On.ownBlock ≠ some k := fun k hk e => by
  have hsz := hD.size
  rcases j3 k hk with h1 | h1
  · exact h.ap k h1 e
  · have := (h.wo.lt k e).2
    omega
section
variable {w : World} {base g : Nat} {b : ByteArray} {x y : Nat} {Bs Os : List Stp} {Bk On : Value} {s : Stp}
theorem rRedo_any (h : RdS w base g b x y Bs (Os ++ [s]) Bk On) (hbase : base ≤ g) (hk : Os.length ≤ 300) (hm : Bs.length ≤ 300) :
    Calls Tryz.prog 16 #[.pointer (some ⟨g, 0, none⟩)] w (RUn w base g (Bs ++ [s]) Os Bk On s s.v) := by
  have hln : (Os ++ [s]).length = Os.length + 1 := by rw [List.length_append]; rfl
  obtain ⟨c0, c1, c2, c3, c4⟩ := h.at_.cells
  have lg := h.at_.lt
  have HH := hid h
  have hwb := h.wo
  rw [hln] at hwb
  rcases hwb.2 with ⟨_, h0⟩ | ⟨g1, off, cap, cur, rfl, hb1, hh1, hc1, hsz1, hx1⟩
  · omega
  have hcell : ∀ j, j < 6 → w.cell? ⟨g1, off + Os.length * 6 + j, none⟩ = (stV s)[j]? := fun j hj => by
    rw [blk_cell hh1, Nat.add_assoc]
    have h1 := sts_last Os s j
    obtain ⟨u, hu⟩ : ∃ u, (stV s)[j]? = some u := ⟨_, Array.getElem?_eq_getElem (show j < (stV s).size from hj)⟩
    rw [hu] at h1 ⊢
    exact hx1 _ _ h1
  have d0 : w.cell? ⟨g1, off + Os.length * 6, none⟩ = some (.string s.u.b) := hcell 0 (by omega)
  have d1 : w.cell? ⟨g1, off + Os.length * 6 + 1, none⟩ = some (.int .i64 (s.u.x : Int)) := hcell 1 (by omega)
  have d2 : w.cell? ⟨g1, off + Os.length * 6 + 2, none⟩ = some (.int .i64 (s.u.y : Int)) := hcell 2 (by omega)
  have d3 : w.cell? ⟨g1, off + Os.length * 6 + 3, none⟩ = some (.string s.v.b) := hcell 3 (by omega)
  have d4 : w.cell? ⟨g1, off + Os.length * 6 + 4, none⟩ = some (.int .i64 (s.v.x : Int)) := hcell 4 (by omega)
  have d5 : w.cell? ⟨g1, off + Os.length * 6 + 5, none⟩ = some (.int .i64 (s.v.y : Int)) := hcell 5 (by omega)
  have lg1 := lt_of_block hh1
  have r1 : (Os.length : Int) + 1 - 1 = (Os.length : Int) := by omega
  have r2 : ¬ (Os.length : Int) + 1 = 0 := by omega
  have r3 : (((Os.length : Int) + 1) == 0) = false := beq_eq_false_iff_ne.2 r2
  have r4 : (Os.length : Int) < (Os.length : Int) + 1 := by omega
  have hcc : (Os.length : Int) ≤ (cap : Int) := by omega
  have f4 := h.at_.free 4
  have HLN := hid hln
  clear h hwb hcell hh1 hsz1 hx1 hb1 hln
  go_enter Tryz.func16, Tryz.ntmps16
  obtain ⟨W, hW⟩ : ∃ W, (w.setCell ⟨g, 4, none⟩ (.slice (some ⟨g1, off, none⟩) Os.length cap)).alloc (.cells #[.string s.u.b, .int .i64 (s.u.x : Int), .int .i64 (s.u.y : Int), .string s.v.b, .int .i64 (s.v.x : Int), .int .i64 (s.v.y : Int)] 75) = W := ⟨_, rfl⟩
  have hg3 : w.grownBy (w.setCell ⟨g, 4, none⟩ (.slice (some ⟨g1, off, none⟩) Os.length cap)) (some g) := grown_cell (World.grownBy.refl _ _)
  have hbA := (Below.refl (w.setCell ⟨g, 4, none⟩ (.slice (some ⟨g1, off, none⟩) Os.length cap)).heap.size (w.setCell ⟨g, 4, none⟩ (.slice (some ⟨g1, off, none⟩) Os.length cap))).alloc (Nat.le_refl _) (.cells #[.string s.u.b, .int .i64 (s.u.x : Int), .int .i64 (s.u.y : Int), .string s.v.b, .int .i64 (s.v.x : Int), .int .i64 (s.v.y : Int)] 75)
  rw [hW] at hbA
  have hnw : W.heap[w.heap.size]? = some (.cells (stV s) 75 (0, 0)) := by
    rw [← hW]
    simpa [stV] using World.alloc_heap_new (w.setCell ⟨g, 4, none⟩ (.slice (some ⟨g1, off, none⟩) Os.length cap)) (.cells #[.string s.u.b, .int .i64 (s.u.x : Int), .int .i64 (s.u.y : Int), .string s.v.b, .int .i64 (s.v.x : Int), .int .i64 (s.v.y : Int)] 75)
  have hwl := (HH.out.wo)
  rw [HLN.out] at hwl
  have hless := hwl.less (m := Os.length) (by omega) (by omega)
  rw [sts_take] at hless
  have hgn : ∀ k, (Value.slice (some ⟨g1, off, none⟩) (Os.length + 1) cap).ownBlock = some k → k ≠ g := fun k hk e => HH.out.wo.ne HH.out.at_ (by decide) (by rw [hk, e])
  have hR : RdS W base g b x y Bs Os Bk (.slice (some ⟨g1, off, none⟩) Os.length cap) := by
    have h0 : RdS (w.setCell ⟨g, 4, none⟩ (.slice (some ⟨g1, off, none⟩) Os.length cap)) base g b x y Bs Os Bk (.slice (some ⟨g1, off, none⟩) Os.length cap) :=
      ⟨store_in HH.out.at_, HH.out.wb.same fun k hk => heap_setCell_other _ _ _ _ (fun e => HH.out.wb.ne HH.out.at_ (by decide) (by rw [hk, e])), hless.same fun k hk => heap_setCell_other _ _ _ _ (fun e => hgn k hk e), fun k hk => HH.out.ap k hk⟩
    exact h0.on hbA
  have hTW : Turn (RFoot g Bk (.slice (some ⟨g1, off, none⟩) (Os.length + 1) cap)) w W := (Turn.grown hg3 (fun k hk => by injection hk with hk; exact .inl hk.symm)).trans (Turn.of_below hbA)
  have hsW : w.heap.size + 1 ≤ W.heap.size := by
    have := lt_of_block hnw
    omega
  have HW := hid hW
  have HR := hid hR
  have HNW := hid hnw
  have HTW := hid hTW
  clear hW hg3 hbA hnw hwl hless hgn hR hTW
  go_upto_region 6 with fail
  rw [HW.out]
  clear c0 c1 c2 c3 c4 f4 d0 d1 d2 d3 d4 d5 lg1
  go_cut [] from 30 to 39 (fun wx => ∃ Bk', RdAt wx g b x y Bk' (.slice (some ⟨g1, off, none⟩) Os.length cap) ∧ Win wx base Bk' (Bs.length + 1) (sts (Bs ++ [s])) ∧ Win wx base (.slice (some ⟨g1, off, none⟩) Os.length cap) Os.length (sts Os) ∧ Turn (RFoot g Bk (.slice (some ⟨g1, off, none⟩) Os.length cap)) W wx ∧ (∀ k, Bk'.ownBlock = some k → Bk.ownBlock = some k ∨ W.heap.size ≤ k) ∧ (∀ k, Bk'.ownBlock = some k → (Value.slice (some ⟨g1, off, none⟩) Os.length cap).ownBlock ≠ some k) ∧ wx.heap[w.heap.size]? = some (.cells (stV s) 75 (0, 0)))
  case first =>
    have hmx := mixed
    obtain ⟨c0, c1, c2, c3, c4⟩ := HR.out.at_.cells
    have f3 := HR.out.at_.free 3
    have lgW := HR.out.at_.lt
    have d0 : W.cell? ⟨w.heap.size, 0, none⟩ = some (.string s.u.b) := by rw [blk_cell HNW.out]; rfl
    have d1 : W.cell? ⟨w.heap.size, 1, none⟩ = some (.int .i64 (s.u.x : Int)) := by rw [blk_cell HNW.out]; rfl
    have d2 : W.cell? ⟨w.heap.size, 2, none⟩ = some (.int .i64 (s.u.y : Int)) := by rw [blk_cell HNW.out]; rfl
    have d3 : W.cell? ⟨w.heap.size, 3, none⟩ = some (.string s.v.b) := by rw [blk_cell HNW.out]; rfl
    have d4 : W.cell? ⟨w.heap.size, 4, none⟩ = some (.int .i64 (s.v.x : Int)) := by rw [blk_cell HNW.out]; rfl
    have d5 : W.cell? ⟨w.heap.size, 5, none⟩ = some (.int .i64 (s.v.y : Int)) := by rw [blk_cell HNW.out]; rfl
    have lb := lt_of_block HNW.out
    have hbD := ((Below.refl W.heap.size W).alloc (Nat.le_refl _) (.cells #[.string s.u.b, .int .i64 (s.u.x : Int), .int .i64 (s.u.y : Int), .string s.v.b, .int .i64 (s.v.x : Int), .int .i64 (s.v.y : Int)] 75)).drew
    have hgD : (W.alloc (.cells #[.string s.u.b, .int .i64 (s.u.x : Int), .int .i64 (s.u.y : Int), .string s.v.b, .int .i64 (s.v.x : Int), .int .i64 (s.v.y : Int)] 75)).drew.heap[W.heap.size]? = some (.cells (stV s) 75 (0, 0)) := World.alloc_heap_new W _
    have hbW : base ≤ (W.alloc (.cells #[.string s.u.b, .int .i64 (s.u.x : Int), .int .i64 (s.u.y : Int), .string s.v.b, .int .i64 (s.v.x : Int), .int .i64 (s.v.y : Int)] 75)).drew.heap.size := by
      have := hbD.size
      omega
    have HBD := hid hbD
    have HGD := hid hgD
    have HBW := hid hbW
    clear hbD hgD hbW
    go_region_law (refine step_win rfl (.tmp 34) (.tmp 36) rfl base Bs.length Bk (sts Bs) (by simp [Act.eval, Act.put]) (HR.out.wb.on HBD.out) W.heap.size (by simp [Act.eval, Act.put]) (stV s) rfl (stV_one _) HGD.out (by omega) HBW.out (fun v' wz j1 j2 j3 => ?_)
                   obtain ⟨A', cc, rfl⟩ := j1.shape
                   have hzg : RdAt wz g b x y Bk (.slice (some ⟨g1, off, none⟩) Os.length cap) := by
                     have q := HR.out.at_.on HBD.out
                     have hne := (HR.out.wb.on HBD.out).ne q (by decide)
                     unfold RdAt at q ⊢
                     rw [j2.block g (lt_of_block q) (fun e => hne e.symm)]
                     exact q
                   obtain ⟨z0, z1, z2, z3, z4⟩ := hzg.cells
                   have zf := hzg.free 3
                   have zl := hzg.lt
                   have HZZ := hid (And.intro j1 (And.intro j2 (And.intro j3 hzg)))
                   clear j1 j2 j3 hzg)
    all_goals go_wp2
    all_goals go_meet
    all_goals
      obtain ⟨j1, j2, j3, hzg⟩ := HZZ.out
      have p6 := HR.out.pushA HBD.out j3
      obtain ⟨p1, p2, p3, p4, p5⟩ := HR.out.push (n := Bs.length + 1) (xs := sts (Bs ++ [s])) HBD.out (by rw [sts_snoc]; exact j1) j2 j3 hzg
      refine ⟨_, p1, p2, p3, p4, p5, p6, ?_⟩
      rw [heap_setCell_other _ _ _ _ (fun e => Nat.lt_irrefl _ (e ▸ lg)), j2.block _ (Nat.lt_of_lt_of_le lb HBD.out.size) (fun e => Nat.lt_irrefl _ (HH.out.wb.lt _ e.symm).2), HBD.out.block _ lb]
      exact HNW.out
  case rest =>
    obtain ⟨Bk', m1, m2, m3, m4, m5, m6, m7⟩ := hcut
    have hB : RdS wc base g b x y (Bs ++ [s]) Os Bk' (.slice (some ⟨g1, off, none⟩) Os.length cap) := ⟨m1, by rw [List.length_append]; exact m2, m3, m6⟩
    have hgr : wc.grownBy (((wc.setCell ⟨g, 0, none⟩ (.string s.v.b)).setCell ⟨g, 1, none⟩ (.int .i64 (s.v.x : Int))).setCell ⟨g, 2, none⟩ (.int .i64 (s.v.y : Int))) (some g) := grown_cell (grown_cell (grown_cell (World.grownBy.refl _ _)))
    have hfin : RUn w base g (Bs ++ [s]) Os Bk (.slice (some ⟨g1, off, none⟩) (Os.length + 1) cap) s s.v (.returned (.bool true)) (((wc.setCell ⟨g, 0, none⟩ (.string s.v.b)).setCell ⟨g, 1, none⟩ (.int .i64 (s.v.x : Int))).setCell ⟨g, 2, none⟩ (.int .i64 (s.v.y : Int))) :=
      ⟨Bk', _, rfl, hB.text (store_in (store_in (store_in m1))) hgr, (HTW.out.trans m4).trans (Turn.grown hgr (fun k hk => by injection hk with hk; exact .inl hk.symm)), fun k hk => by rcases m5 k hk with h | h; exact .inl h; exact .inr (by omega), fun k hk => .inl hk⟩
    obtain ⟨c0, c1, c2, c3, c4⟩ := m1.cells
    have f := m1.free
    have lgc := m1.lt
    have d0 : wc.cell? ⟨w.heap.size, 3, none⟩ = some (.string s.v.b) := by rw [blk_cell m7]; rfl
    have d1 : wc.cell? ⟨w.heap.size, 4, none⟩ = some (.int .i64 (s.v.x : Int)) := by rw [blk_cell m7]; rfl
    have d2 : wc.cell? ⟨w.heap.size, 5, none⟩ = some (.int .i64 (s.v.y : Int)) := by rw [blk_cell m7]; rfl
    have lb := lt_of_block m7
    have HFIN := hid hfin
    clear m1 m2 m3 m4 m5 m6 m7 hB hgr hfin
    go_wp2
    refine bodyPost_ret (v := .bool true) (by simp [results, Tryz.results16, go_sem, *]) rfl HFIN.out
end
end Go.Proofs.YtcfgpmmclijonaaGreatDoor

/- Layer 25, the reference: change in all its ways, Type. -/
namespace Go.Proofs.YtcfgpmmclijonaaGreatDoor
set_option linter.unusedVariables false
set_option linter.unusedSimpArgs false
set_option maxRecDepth 100000
open Go.RowKit Go.Shelf Go.Lib
set_option maxRecDepth 100000
set_option maxHeartbeats 8000000

def RCh (w : World) (base g : Nat) (b : ByteArray) (x y : Nat) (Bs Os : List Stp) (Bk On : Value) (s : ByteArray) (lo hi : Nat) (e : Ending) (w' : World) : Prop :=
  (65536 < b.size - (hi - lo) + s.size ∧ e = .returned (.int .i64 3) ∧ Below w.heap.size w w') ∨
  (b.size - (hi - lo) + s.size ≤ 65536 ∧ lo = hi ∧ s.size = 0 ∧ e = .returned (.int .i64 0) ∧ Below w.heap.size w w') ∨
  (b.size - (hi - lo) + s.size ≤ 65536 ∧ ¬ (lo = hi ∧ s.size = 0) ∧ RChg w base g b x y Bs Bk On s lo hi e w')
section
variable {w : World} {base g : Nat} {b : ByteArray} {x y : Nat} {Bs Os : List Stp} {Bk On : Value}
theorem rchange_all (h : RdS w base g b x y Bs Os Bk On) (hbase : base ≤ g) (s : ByteArray) (lo hi : Nat) (hlh : lo ≤ hi) (hhb : hi ≤ b.size) (hb : b.size ≤ 65536) (hs : s.size ≤ 1000000) (hk : Bs.length ≤ 256) :
    Calls Tryz.prog 26 #[.pointer (some ⟨g, 0, none⟩), .string s, .int .i64 (lo : Int), .int .i64 (hi : Int)] w (RCh w base g b x y Bs Os Bk On s lo hi) := by
  by_cases hl : 65536 < b.size - (hi - lo) + s.size
  · exact (rchange_long h.at_ s lo hi hlh hhb hb hs hl).mono fun e w' hw => .inl ⟨hl, hw⟩
  · have hl' : b.size - (hi - lo) + s.size ≤ 65536 := by omega
    by_cases hd : lo = hi ∧ s.size = 0
    · obtain ⟨hlo, hs0⟩ := hd
      subst hlo
      exact (rchange_none h.at_ lo hhb hb s hs0).mono fun e w' hw => .inr (.inl ⟨hl', rfl, hs0, hw⟩)
    · exact (rchange_any h hbase s lo hi hlh hhb hb hs hl' hd hk).mono fun e w' hw => .inr (.inr ⟨hl', hd, hw⟩)
theorem RCh.before {w1 w2 : World} {s : ByteArray} {lo hi : Nat} {e : Ending} (hb : Below w.heap.size w w1) (h : RCh w1 base g b x y Bs Os Bk On s lo hi e w2) : RCh w base g b x y Bs Os Bk On s lo hi e w2 := by
  have hsz := hb.size
  rcases h with ⟨h1, h2, h3⟩ | ⟨h1, h2, h3, h4, h5⟩ | ⟨h1, h2, z, Bk', h3, h4, h5, h6, h7⟩
  · exact .inl ⟨h1, h2, hb.trans (h3.mono hsz)⟩
  · exact .inr (.inl ⟨h1, h2, h3, h4, hb.trans (h5.mono hsz)⟩)
  · exact .inr (.inr ⟨h1, h2, z, Bk', h3, h4, h5, (Turn.of_below hb).trans h6, fun k hk => (h7 k hk).imp id (Nat.le_trans hsz)⟩)
theorem RCh.ret {w' : World} {s : ByteArray} {lo hi : Nat} {e : Ending} (h : RCh w base g b x y Bs Os Bk On s lo hi e w') : ∃ err : Int, e = .returned (.int .i64 err) := by
  rcases h with ⟨_, h2, _⟩ | ⟨_, _, _, h4, _⟩ | ⟨_, _, z, Bk', h3, _⟩
  · exact ⟨_, h2⟩
  · exact ⟨_, h4⟩
  · exact ⟨_, h3⟩
theorem rType_any (h : RdS w base g b x y Bs Os Bk On) (hbase : base ≤ g) (s : ByteArray) (hx : x ≤ b.size) (hy : y ≤ b.size) (hb : b.size ≤ 65536) (hs : s.size ≤ 1000000) (hk : Bs.length ≤ 256) :
    Calls Tryz.prog 8 #[.pointer (some ⟨g, 0, none⟩), .string s] w (RCh w base g b x y Bs Os Bk On s (min x y) (max x y)) := by
  have CC := rChosen_any h.at_
  have CH := fun w1 (h1 : RdS w1 base g b x y Bs Os Bk On) => rchange_all h1 hbase s (min x y) (max x y) (by omega) (by omega) hb hs hk
  have HH := hid h
  generalize min x y = lo at *
  generalize max x y = hi at *
  have HCH := hid CH
  clear CH h
  go_enter Tryz.func8, Tryz.ntmps8
  go_wp2_with fail
  with_reducible refine CC.mono ?_
  rintro e w1 ⟨rfl, hb1⟩
  have HC1 := hid (HCH.out w1 (HH.out.on hb1))
  have HB1 := hid hb1
  clear CC hb1
  go_wp2_with fail
  with_reducible refine HC1.out.mono ?_
  intro e w2 hw2
  obtain ⟨err, rfl⟩ := hw2.ret
  have HW2 := hid (hw2.before HB1.out)
  clear hw2 HC1
  go_wp2
  refine bodyPost_ret (v := .int .i64 err) (by simp [results, Tryz.results8, go_sem, *]) rfl HW2.out
end
end Go.Proofs.YtcfgpmmclijonaaGreatDoor

/- Layer 25, the reference: Key: its memory, its post, a key that may not be. -/
namespace Go.Proofs.YtcfgpmmclijonaaGreatDoor
set_option linter.unusedVariables false
set_option linter.unusedSimpArgs false
set_option maxRecDepth 100000
open Go.RowKit Go.Shelf Go.Lib
set_option maxRecDepth 100000
set_option maxHeartbeats 8000000

structure KR (b0 bT : Nat) (s : ByteArray) (md : Nat) (b : ByteArray) (x y : Nat) (M : World) : Prop where
  n1 : M.heap[b0]? = some (.cells #[.string s, .int .u8 (md : Int)] 32 (0, 0))
  nT : M.heap[bT]? = some (.cells #[.string b, .int .i64 (x : Int), .int .i64 (y : Int)] 39 (0, 0))
section
variable {b0 bT : Nat} {s b : ByteArray} {md x y : Nat} {M M' : World}
theorem KR.on (h : KR b0 bT s md b x y M) (hb : Below M.heap.size M M') : KR b0 bT s md b x y M' :=
  ⟨(hb.block _ (lt_of_block h.n1)).trans h.n1, (hb.block _ (lt_of_block h.nT)).trans h.nT⟩
theorem KR.turn {F : Nat → Prop} (h : KR b0 bT s md b x y M) (ht : Turn F M M') (h0 : ¬ F b0) (h1 : ¬ F bT) : KR b0 bT s md b x y M' :=
  ⟨(ht.block _ (lt_of_block h.n1) h0).trans h.n1, (ht.block _ (lt_of_block h.nT) h1).trans h.nT⟩
theorem KR.cells (h : KR b0 bT s md b x y M) : M.cell? ⟨b0, 0, none⟩ = some (.string s) ∧ M.cell? ⟨b0, 1, none⟩ = some (.int .u8 (md : Int)) ∧ M.cell? ⟨bT, 0, none⟩ = some (.string b) ∧ M.cell? ⟨bT, 1, none⟩ = some (.int .i64 (x : Int)) ∧ M.cell? ⟨bT, 2, none⟩ = some (.int .i64 (y : Int)) :=
  ⟨by rw [blk_cell h.n1]; rfl, by rw [blk_cell h.n1]; rfl, by rw [blk_cell h.nT]; rfl, by rw [blk_cell h.nT]; rfl, by rw [blk_cell h.nT]; rfl⟩
end
/-- What the reference's Key answers and leaves. -/
def RKP (w : World) (base g : Nat) (b : ByteArray) (x y : Nat) (Bs Os : List Stp) (Bk On : Value) (a : KAct) (e : Ending) (w' : World) : Prop :=
  match a with
  | .go x' y' => e = .returned (.tuple #[.bool (!txEq b b (x' : Int) (x : Int) (y' : Int) (y : Int)), .int .i64 0]) ∧ RdS w' base g b x' y' Bs Os Bk On ∧ w.grownBy w' (some g)
  | .no => e = .returned (.tuple #[.bool false, .int .i64 0]) ∧ Below w.heap.size w w'
  | .ed s lo hi => (65536 < b.size - (hi - lo) + s.size ∧ e = .returned (.tuple #[.bool false, .int .i64 3]) ∧ Below w.heap.size w w') ∨
    (b.size - (hi - lo) + s.size ≤ 65536 ∧ lo = hi ∧ s.size = 0 ∧ e = .returned (.tuple #[.bool false, .int .i64 0]) ∧ Below w.heap.size w w') ∨
    (b.size - (hi - lo) + s.size ≤ 65536 ∧ ¬ (lo = hi ∧ s.size = 0) ∧ ∃ z : Nat, e = .returned (.tuple #[.bool (!txEq (cat3 b s lo hi) b (z : Int) (x : Int) (z : Int) (y : Int)), .int .i64 0]) ∧ z = settledE (cat3 b s lo hi).data.toList (lo + s.size) ∧
      RChg w base g b x y Bs Bk On s lo hi (.returned (.int .i64 0)) w')
theorem rKey_bad {w : World} {base g : Nat} {b : ByteArray} {x y : Nat} {Bs Os : List Stp} {Bk On : Value} (hT : Tabs w) (h : RdS w base g b x y Bs Os Bk On) (s : ByteArray) (md : Nat) (hs : s.size ≤ 9223372036854775807) (hm : mayB ⟨s.data.toList, md⟩ = false) :
    Calls Tryz.prog 10 #[.pointer (some ⟨g, 0, none⟩), .agg #[.string s, .int .u8 (md : Int)]] w fun e w' => e = .returned (.tuple #[.bool false, .int .i64 210]) ∧ Below w.heap.size w w' := by
  have hB := (Below.refl w.heap.size w).alloc (Nat.le_refl _) (.cells #[.string s, .int .u8 (md : Int)] 32)
  have C := rmay_any s md (w.alloc (.cells #[.string s, .int .u8 (md : Int)] 32)) (tabs_on hT hB) hs
  rw [hm] at C
  have HB := hid hB
  clear h hT hB
  go_enter Tryz.func10, Tryz.ntmps10
  go_wp2_with fail
  with_reducible refine C.mono ?_
  rintro e w1 ⟨rfl, hb1⟩
  have HB1 := hid (HB.out.trans (hb1.mono HB.out.size))
  clear C hb1
  go_wp2
  exact bodyPost_ret (by simp [results, Tryz.results10, go_sem, *]) rfl ⟨rfl, HB1.out⟩
end Go.Proofs.YtcfgpmmclijonaaGreatDoor

/- Layer 25, the reference: what Key leaves behind a change. -/
namespace Go.Proofs.YtcfgpmmclijonaaGreatDoor
set_option linter.unusedVariables false
set_option linter.unusedSimpArgs false
set_option maxRecDepth 100000
open Go.RowKit Go.Shelf Go.Lib
set_option maxRecDepth 100000
set_option maxHeartbeats 16000000

theorem txEq_same (b : ByteArray) (x y : Int) : txEq b b x x y y = true := by simp [txEq]
theorem grown_more {w w1 w2 : World} {ob : Option Nat} (h : w.grownBy w1 ob) (hb : Below w1.heap.size w1 w2) : w.grownBy w2 ob :=
  ⟨hb.os.trans h.os, hb.tape.trans h.tape, hb.output.trans h.output, Nat.le_trans h.size hb.size, fun k hk hn => (hb.block k (Nat.lt_of_lt_of_le hk h.size)).trans (h.block k hk hn)⟩
section
variable {w : World} {base g : Nat} {b : ByteArray} {x y : Nat} {Bs Os : List Stp} {Bk On : Value}
theorem RdS.foot (h : RdS w base g b x y Bs Os Bk On) {k : Nat} (hk : RFoot g Bk On k) : k < w.heap.size := by
  rcases hk with rfl | hk | hk
  · exact h.at_.lt
  · exact (h.wb.lt k hk).2
  · exact (h.wo.lt k hk).2
theorem KR.lts {b0 bT : Nat} {s : ByteArray} {md : Nat} {M : World} (h : KR b0 bT s md b x y M) : b0 < M.heap.size ∧ bT < M.heap.size := ⟨lt_of_block h.n1, lt_of_block h.nT⟩
theorem RCh.fin {M w6 : World} {b0 bT : Nat} {sk s : ByteArray} {md lo hi : Nat} {e : Ending} (hB : Below w.heap.size w M) (h : RdS M base g b x y Bs Os Bk On) (hc : RCh M base g b x y Bs Os Bk On s lo hi e w6) (kr : KR b0 bT sk md b x y M) (hf0 : ¬ RFoot g Bk On b0) (hfT : ¬ RFoot g Bk On bT) :
    ∃ (err : Int) (b' : ByteArray) (x' y' : Nat) (p q : Value), e = .returned (.int .i64 err) ∧ RdAt w6 g b' x' y' p q ∧ KR b0 bT sk md b x y w6 ∧ (b.size - (hi - lo) + s.size ≤ 65536 → err = 0) ∧
      ∀ wr, Below w6.heap.size w6 wr → RKP w base g b x y Bs Os Bk On (.ed s lo hi) (.returned (.tuple #[.bool (decide (err = 0) && !txEq b' b (x' : Int) (x : Int) (y' : Int) (y : Int)), .int .i64 err])) wr := by
  have hsz := hB.size
  rcases hc with ⟨h1, rfl, h3⟩ | ⟨h1, h2, h3, rfl, h5⟩ | ⟨h1, h2, z, Bk', rfl, h4, h5, h6, h7⟩
  · exact ⟨3, b, x, y, Bk, On, rfl, h.at_.on h3, kr.on h3, fun hn => by omega, fun wr hbr => .inl ⟨h1, rfl, (hB.trans (h3.mono hsz)).trans (hbr.mono (Nat.le_trans hsz h3.size))⟩⟩
  · refine ⟨0, b, x, y, Bk, On, rfl, h.at_.on h5, kr.on h5, fun _ => rfl, fun wr hbr => .inr (.inl ⟨h1, h2, h3, ?_, (hB.trans (h5.mono hsz)).trans (hbr.mono (Nat.le_trans hsz h5.size))⟩)⟩
    rw [txEq_same]
    rfl
  · refine ⟨0, cat3 b s lo hi, z, z, Bk', .slice none 0 0, rfl, h5.at_, kr.turn h6 hf0 hfT, fun _ => rfl, fun wr hbr => .inr (.inr ⟨h1, h2, z, ?_, h4, z, Bk', rfl, h4, h5.on hbr, ((Turn.of_below hB).trans h6).trans (Turn.of_below hbr), fun k hk => (h7 k hk).imp id (Nat.le_trans hsz)⟩)⟩
    simp
end
end Go.Proofs.YtcfgpmmclijonaaGreatDoor
