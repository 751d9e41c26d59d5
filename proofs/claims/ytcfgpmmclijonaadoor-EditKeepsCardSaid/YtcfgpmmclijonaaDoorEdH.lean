/- Layer 25: Undo. -/
import Derived.Test.YtcfgpmmclijonaaDoorEdG
namespace Go.Proofs.YtcfgpmmclijonaaDoor
set_option linter.unusedVariables false
set_option linter.unusedSimpArgs false
set_option maxRecDepth 100000
open Go.RowKit Go.Shelf Go.Lib
set_option maxRecDepth 100000
set_option maxHeartbeats 8000000

section
variable {w : World} {g t : Nat} {b b0 b1 : ByteArray} {x y x0 y0 x1 y1 : Nat} {Q R : Option Addr} {k m : Nat}
theorem Undo_any (h : EdAt w g b x y (.pointer (some ⟨t, 0, none⟩)) (.pointer Q) (k + 1) m) (hS : StAt w t b0 x0 y0 b1 x1 y1 (.pointer R)) (hgt : g ≠ t) (hk : k ≤ 300) (hm : m ≤ 1000000) :
    Calls Tryd.prog 16 #[.pointer (some ⟨g, 0, none⟩)] w fun e w' => ∃ t', e = .returned (.tuple #[.bool true, .int .i64 0]) ∧ EdAt w' g b0 x0 y0 (.pointer R) (.pointer (some ⟨t', 0, none⟩)) k (m + 1) ∧ StAt w' t' b0 x0 y0 b1 x1 y1 (.pointer Q) ∧ w.heap.size ≤ t' ∧ w.grownBy w' (some g) := by
  have C := is_any h
  have HH := hid h
  have HS := hid hS
  clear h hS
  go_enter Tryd.func16, Tryd.ntmps16
  go_wp2_with fail
  with_reducible refine C.mono ?_
  rintro e w1 ⟨rfl, hb1⟩
  have h1 := HH.out.on hb1
  have s1 := HS.out.on hb1
  obtain ⟨c0, c1, c2, c3, c4, c5, c6, c7⟩ := h1.cells
  obtain ⟨d0, d1, d2, d3, d4, d5, d6⟩ := s1.cells
  have f := h1.free
  have n1 : ¬ g = t := hgt
  have n2 : ¬ t = g := Ne.symm hgt
  have lg := h1.lt
  have lt := lt_of_block s1
  obtain ⟨W, hW⟩ : ∃ W, (((w1.setCell ⟨g, 1, none⟩ (.string b0)).setCell ⟨g, 2, none⟩ (.int .i64 (x0 : Int))).setCell ⟨g, 3, none⟩ (.int .i64 (y0 : Int))).setCell ⟨g, 4, none⟩ (.pointer R) = W := ⟨_, rfl⟩
  have hE : EdAt W g b0 x0 y0 (.pointer R) (.pointer Q) (k + 1) m := by
    rw [← hW]
    exact store_in (store_in (store_in (store_in h1)))
  have hS : StAt W t b0 x0 y0 b1 x1 y1 (.pointer R) := by
    rw [← hW]
    exact store_off (store_off (store_off (store_off s1 n2) n2) n2) n2
  have hG : w.grownBy W (some g) := by
    rw [← hW]
    exact grown_cell (grown_cell (grown_cell (grown_cell (grown_below hb1 (World.grownBy.refl _ _)))))
  have HW := hid hW
  have HE := hid hE
  have HS2 := hid hS
  have HG := hid hG
  clear h1 s1 hE hS hG hW C
  go_upto_region 9 with fail
  rw [HW.out]
  clear c0 c1 c2 c3 c4 c5 c6 c7 d0 d1 d2 d3 d4 d5 d6 f lg lt
  have HWs := HG.out.size
  go_cut [] from 31 to 48 (fun wx => ∃ t', EdAt wx g b0 x0 y0 (.pointer R) (.pointer (some ⟨t', 0, none⟩)) (k + 1) m ∧ StAt wx t' b0 x0 y0 b1 x1 y1 (.pointer Q) ∧ w.heap.size ≤ t' ∧ w.grownBy wx (some g))
  case first =>
    have hmx := mixed
    have hE := HE.out
    have hS := HS2.out
    obtain ⟨c0, c1, c2, c3, c4, c5, c6, c7⟩ := hE.cells
    obtain ⟨d0, d1, d2, d3, d4, d5, d6⟩ := hS.cells
    have f5 := hE.free 5
    have lg := hE.lt
    have lt := lt_of_block hS
    have lg2 : ¬ W.heap.size = g := by omega
    have lg3 : ¬ g = W.heap.size := by omega
    clear hE hS
    go_region
    all_goals go_wp2
    all_goals go_meet
    have hs5 : (W.setCell ⟨g, 5, none⟩ (.pointer (some ⟨W.heap.size, 0, none⟩))).heap.size = W.heap.size := by simp
    have e5 : EdAt (W.setCell ⟨g, 5, none⟩ (.pointer (some ⟨W.heap.size, 0, none⟩))) g b0 x0 y0 (.pointer R) (.pointer (some ⟨W.heap.size, 0, none⟩)) (k + 1) m := store_in HE.out
    refine ⟨W.heap.size, e5.on (((Below.refl _ _).alloc (Nat.le_refl _) _).drew), ?_, by omega, grown_then (grown_cell HG.out) (((Below.refl _ _).alloc (Nat.le_refl _) _).drew)⟩
    have := World.alloc_heap_new (W.setCell ⟨g, 5, none⟩ (.pointer (some ⟨W.heap.size, 0, none⟩))) (.cells (stC b0 x0 y0 b1 x1 y1 (.pointer Q)) 69)
    rw [hs5] at this
    exact this
  case rest =>
    obtain ⟨t', hE, hS, ht, hg⟩ := hcut
    obtain ⟨c0, c1, c2, c3, c4, c5, c6, c7⟩ := hE.cells
    have f6 := hE.free 6
    have f7 := hE.free 7
    have lg := hE.lt
    have lt := lt_of_block hS
    have hE2 : EdAt ((wc.setCell ⟨g, 6, none⟩ (.int .i64 (k : Int))).setCell ⟨g, 7, none⟩ (.int .i64 ((m + 1 : Nat) : Int))) g b0 x0 y0 (.pointer R) (.pointer (some ⟨t', 0, none⟩)) k (m + 1) := store_in (store_in hE)
    have HE2 := hid hE2
    have HS3 := hid hS
    have HG3 := hid hg
    have q1 : ((k + 1 : Nat) : Int) - 1 = (k : Int) := by omega
    have q2 : (k : Int) + 1 - 1 = (k : Int) := by omega
    have htg : ¬ t' = g := by
      intro e
      subst e
      have h1 := hE
      have h2 := hS
      unfold EdAt at h1
      unfold StAt at h2
      rw [h1] at h2
      simp [edC, stC] at h2
    clear hE hS hg hE2
    go_wp2
    exact bodyPost_ret (by simp [results, Tryd.results16, go_sem, *]) rfl ⟨t', rfl, HE2.out, store_off (store_off HS3.out htg) htg, ht, grown_cell (grown_cell HG3.out)⟩
end
end Go.Proofs.YtcfgpmmclijonaaDoor
