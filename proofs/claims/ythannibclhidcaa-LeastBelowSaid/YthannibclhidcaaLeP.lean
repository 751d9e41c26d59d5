/- Layer 9: the program's rounds. -/
import Derived.Test.YthannibclhidcaaLePMem
import Derived.Deep.RegionWith
import Derived.Deep.CutRange
import Derived.Deep.LoopGhost
import Derived.Deep.OwnRows
namespace Go.Proofs.Ythannibclhidcaa
set_option linter.unusedVariables false
set_option linter.unusedSimpArgs false
open Go.RowKit
attribute [local go_sem] max_fold min_fold

theorem make_row (n : Nat) (hn : n ≤ 1000000) (w : World) : (Instr.makeSlice 22 (.int .i64 (n : Int)) (.int .i64 (n : Int))).run Try.prog w = .ok (.slice (some ⟨w.heap.size, 0, none⟩) n n) (w.alloc (.cells (madeCells #[.int .i64 0] n) 3)) :=
  run_make_row' 22 3 (.int .i64 0) 8 Try.underlying22 info_int rfl .i64 .i64 n (by omega) (by omega) w
theorem own_row {w : World} {B g n : Nat} (hB : B ≤ g) (hn : n ≤ 1000000) (h : w.heap[g]? = some (.cells (madeCells #[.int .i64 0] n) 3 (0, 0))) : w.ownsRow B 3 1 (.slice (some ⟨g, 0, none⟩) n n) n (ints (List.replicate n 0)) := by
  have e : (madeCells #[Value.int .i64 0] n).toList = ints (List.replicate n 0) := by
    simp [ints, toList_madeCells_one]
  have e2 : (madeCells #[Value.int .i64 0] n).size = n := by
    rw [← Array.length_toList, e]
    simp [ints]
  refine ⟨by simp [ints], .inr ⟨g, n, _, rfl, hB, h, Nat.le_refl _, by unfold maxLen; omega, by omega, ?_⟩⟩
  rw [e]
  simp [ints]
theorem PMem.made {B n gx gm g : Nat} {w wr : World} {A : Option Addr} {L : List T3} (hA : At B w A (t3s L)) (hB : B ≤ w.heap.size) (hn : n ≤ 1000000) (hb : Below w.heap.size w wr)
    (h4 : wr.heap[w.heap.size]? = some (.cells #[.slice none 0 0, .slice none 0 0, .int .i64 0] 63 (0, 0))) (hx : wr.heap[gx]? = some (.cells (madeCells #[.int .i64 0] n) 3 (0, 0))) (hm : wr.heap[gm]? = some (.cells (madeCells #[.int .i64 0] n) 3 (0, 0)))
    (h5 : wr.heap[g]? = some (.cells #[.slice (some ⟨gx, 0, none⟩) n n, .slice (some ⟨gm, 0, none⟩) n n, .int .i64 0] 63 (0, 0))) (l : w.heap.size < gx ∧ w.heap.size < gm ∧ w.heap.size < g ∧ gx ≠ gm ∧ g ≠ gx ∧ g ≠ gm) :
    PMem B w A L n gx gm w.heap.size g (List.replicate n 0) (List.replicate n 0) 0 wr := by
  obtain ⟨l1, l2, l3, l4, l5, l6⟩ := l
  exact ⟨⟨hb, hA.below (hb.mono hB), own_row (by omega) hn hx, own_row (by omega) hn hm, l4⟩, h4, h5, Nat.le_refl _, by omega, by omega, by omega, by omega, l5, l6⟩

theorem push4 (a : Array Obj) (x y z t : Obj) : ((((a.push x).push y).push z).push t)[a.size]? = some x ∧ ((((a.push x).push y).push z).push t)[a.size + 1]? = some y ∧ ((((a.push x).push y).push z).push t)[a.size + 2]? = some z ∧ ((((a.push x).push y).push z).push t)[a.size + 3]? = some t := by
  refine ⟨?_, ?_, ?_, ?_⟩
  · rw [Array.getElem?_push, if_neg (by simp only [Array.size_push]; omega), Array.getElem?_push, if_neg (by simp only [Array.size_push]; omega), Array.getElem?_push, if_neg (by simp only [Array.size_push]; omega), Array.getElem?_push, if_pos rfl]
  · rw [Array.getElem?_push, if_neg (by simp only [Array.size_push]; omega), Array.getElem?_push, if_neg (by simp only [Array.size_push]; omega), Array.getElem?_push, if_pos (by simp only [Array.size_push])]
  · rw [Array.getElem?_push, if_neg (by simp only [Array.size_push]; omega), Array.getElem?_push, if_pos (by simp only [Array.size_push])]
  · rw [Array.getElem?_push, if_pos (by simp only [Array.size_push])]

set_option maxRecDepth 100000 in
set_option maxHeartbeats 8000000 in
theorem rounds_any (B : Nat) (A : Option Addr) (c n : Nat) (L : List T3) (w : World) (hA : At B w A (t3s L)) (hB : B ≤ w.heap.size) (hn : n ≤ 4096) (hl : L.length ≤ 4096) (hL : okL n L) :
    Calls Try.prog 55 #[.int .i64 n, .slice A L.length c] w (RPPost n L w) := by
  obtain ⟨m, hm⟩ : ∃ m, L.length = m := ⟨_, rfl⟩
  have HM := Go.Lib.hid hm
  have HO := Go.Lib.hid hL
  have hlm : m ≤ 4096 := by omega
  rw [hm]
  clear hm hl hL
  have hmk := make_row n (by omega)
  go_enter Try.func55, Try.ntmps55
  go_wp2
  go_step3
  go_upto_region 1 with fail
  go_cut [5] from 9 to 13 (fun p wx => ∃ gx gm g, p = .pointer (some ⟨g, 0, none⟩) ∧ PMem B w A L n gx gm w.heap.size g (List.replicate n 0) (List.replicate n 0) 0 wx)
  case first =>
    go_region
    all_goals go_wp2
    all_goals go_meet
    all_goals have hp4 := fun x y z t => push4 w.heap x y z t
    all_goals first
      | exact ⟨w.heap.size + 1, w.heap.size + 2, w.heap.size + 3, rfl, PMem.made hA hB (by omega) (by repeat (first | exact Below.refl _ _ | with_reducible refine Below.alloc ?_ (by first | (simp; done) | (simp; omega) | omega) _ | with_reducible refine Below.setCell ?_ (by first | (simp; done) | (simp; omega) | omega) _ | with_reducible refine Below.drew ?_ | with_reducible refine Below.trans ?_ (Below.mono (by assumption) (by first | (simp; done) | (simp; omega) | omega)))) (hp4 _ _ _ _).1 (hp4 _ _ _ _).2.1 (hp4 _ _ _ _).2.2.1 (hp4 _ _ _ _).2.2.2 (by omega)⟩
      | exact ⟨w.heap.size + 1, w.heap.size + 3, w.heap.size + 2, rfl, PMem.made hA hB (by omega) (by repeat (first | exact Below.refl _ _ | with_reducible refine Below.alloc ?_ (by first | (simp; done) | (simp; omega) | omega) _ | with_reducible refine Below.setCell ?_ (by first | (simp; done) | (simp; omega) | omega) _ | with_reducible refine Below.drew ?_ | with_reducible refine Below.trans ?_ (Below.mono (by assumption) (by first | (simp; done) | (simp; omega) | omega)))) (hp4 _ _ _ _).1 (hp4 _ _ _ _).2.1 (hp4 _ _ _ _).2.2.2 (hp4 _ _ _ _).2.2.1 (by omega)⟩
      | exact ⟨w.heap.size + 2, w.heap.size + 1, w.heap.size + 3, rfl, PMem.made hA hB (by omega) (by repeat (first | exact Below.refl _ _ | with_reducible refine Below.alloc ?_ (by first | (simp; done) | (simp; omega) | omega) _ | with_reducible refine Below.setCell ?_ (by first | (simp; done) | (simp; omega) | omega) _ | with_reducible refine Below.drew ?_ | with_reducible refine Below.trans ?_ (Below.mono (by assumption) (by first | (simp; done) | (simp; omega) | omega)))) (hp4 _ _ _ _).1 (hp4 _ _ _ _).2.2.1 (hp4 _ _ _ _).2.1 (hp4 _ _ _ _).2.2.2 (by omega)⟩
      | exact ⟨w.heap.size + 2, w.heap.size + 3, w.heap.size + 1, rfl, PMem.made hA hB (by omega) (by repeat (first | exact Below.refl _ _ | with_reducible refine Below.alloc ?_ (by first | (simp; done) | (simp; omega) | omega) _ | with_reducible refine Below.setCell ?_ (by first | (simp; done) | (simp; omega) | omega) _ | with_reducible refine Below.drew ?_ | with_reducible refine Below.trans ?_ (Below.mono (by assumption) (by first | (simp; done) | (simp; omega) | omega)))) (hp4 _ _ _ _).1 (hp4 _ _ _ _).2.2.1 (hp4 _ _ _ _).2.2.2 (hp4 _ _ _ _).2.1 (by omega)⟩
      | exact ⟨w.heap.size + 3, w.heap.size + 1, w.heap.size + 2, rfl, PMem.made hA hB (by omega) (by repeat (first | exact Below.refl _ _ | with_reducible refine Below.alloc ?_ (by first | (simp; done) | (simp; omega) | omega) _ | with_reducible refine Below.setCell ?_ (by first | (simp; done) | (simp; omega) | omega) _ | with_reducible refine Below.drew ?_ | with_reducible refine Below.trans ?_ (Below.mono (by assumption) (by first | (simp; done) | (simp; omega) | omega)))) (hp4 _ _ _ _).1 (hp4 _ _ _ _).2.2.2 (hp4 _ _ _ _).2.1 (hp4 _ _ _ _).2.2.1 (by omega)⟩
      | exact ⟨w.heap.size + 3, w.heap.size + 2, w.heap.size + 1, rfl, PMem.made hA hB (by omega) (by repeat (first | exact Below.refl _ _ | with_reducible refine Below.alloc ?_ (by first | (simp; done) | (simp; omega) | omega) _ | with_reducible refine Below.setCell ?_ (by first | (simp; done) | (simp; omega) | omega) _ | with_reducible refine Below.drew ?_ | with_reducible refine Below.trans ?_ (Below.mono (by assumption) (by first | (simp; done) | (simp; omega) | omega)))) (hp4 _ _ _ _).1 (hp4 _ _ _ _).2.2.2 (hp4 _ _ _ _).2.2.1 (hp4 _ _ _ _).2.1 (by omega)⟩
  case rest =>
    obtain ⟨gx, gm, g, rfl, hmem⟩ := hcut
    have HS0 := Go.Lib.hid (RSt.start n L)
    have hm0 : PMem B w A L n gx gm w.heap.size g (start n).x (ups (start n).m) ((start n).last + 1) wc := by
      have e : ups (start n).m = List.replicate n 0 := ups_start n
      rw [e]
      exact hmem
    clear hmem
    have hls : (start n).last + 1 = 0 := rfl
    generalize start n = s0 at *
    have HM0 := Go.Lib.hid hm0
    clear hm0 hmk
    go_wp2
    go_step3
    go_wp2
    go_loopw [15] (fun i wq => ∃ (k : Nat) (s : St), k ≤ n ∧ i = .int .i64 k ∧ Hid (RSt n L k s) ∧ Hid (PMem B w A L n gx gm w.heap.size g s.x (ups s.m) (s.last + 1) wq)) (fun i _ => n - (intOf i).toNat)
    case atStart => exact ⟨0, s0, by omega, rfl, HS0, HM0⟩
    case round =>
      clear HS0 HM0 hls
      obtain ⟨k, s, hk, rfl, HS, HM0⟩ := hrel
      by_cases hlt : k < n
      · have hli : (k : Int) < (n : Int) := by omega
        have HR0 := Go.Lib.hid HS.out.mid
        obtain ⟨a0, a1, a2, a3⟩ := HM0.out.cells
        have HM1 := Go.Lib.hid (HM0.out.storeL hB 0)
        clear HM0
        go_wp2
        go_loopw [20] (fun i wq2 => ∃ (j : Nat) (r : St), j ≤ m ∧ i = .int .i64 j ∧ Hid (RMid n L k j s r) ∧ Hid (PMem B w A L n gx gm w.heap.size g r.x (ups r.m) (r.last + 1) wq2)) (fun i _ => m - (intOf i).toNat)
        case atStart => exact ⟨0, ⟨s.x, s.m, -1⟩, by omega, rfl, HR0, HM1⟩
        case round =>
          clear HR0 HM1 a0 a1 a2 a3
          obtain ⟨j, r, hj, rfl, HR, HM1⟩ := hrel
          have hval := HR.out.val (by omega) (by have := HM.out; omega) (by have := HM.out; omega)
          by_cases hjm : j < m
          · have hji : (j : Int) < (m : Int) := by omega
            have hjL : j < L.length := by have := HM.out; omega
            obtain ⟨ga, o, rfl, hg, c0, c1, c2⟩ := HM1.out.mem.arg.t3 hjL
            have hb := HO.out j hjL
            have HNX := Go.Lib.hid (HR.out.next HO.out hjL)
            rw [← bk_at hjL] at c0 c1 c2
            generalize bk L j = b at *
            obtain ⟨bp, bq, br⟩ := b
            obtain ⟨⟨hp0, hp1⟩, ⟨hq0, hq1⟩, hr0, hr1⟩ := hb
            simp only at hp0 hp1 hq0 hq1 hr0 hr1 c0 c1 c2
            obtain ⟨p, rfl⟩ : ∃ p : Nat, bp = (p : Int) := ⟨bp.toNat, by omega⟩
            obtain ⟨q, rfl⟩ : ∃ q : Nat, bq = (q : Int) := ⟨bq.toNat, by omega⟩
            have hp : p < n := by omega
            have hq : q < n := by omega
            have hvp := hval.bd p hp
            have hvq := hval.bd q hq
            have lg := World.block_lt_of_cell? _ _ c0
            have hsq := HM1.out.mem.size
            go_wp2
            generalize hwx : World.alloc _ _ = wx
            have hbk : wx.heap[wr.heap.size]? = some (.cells #[.int .i64 p, .int .i64 q, .int .i64 br] 54 (0, 0)) := by rw [← hwx]; exact alloc_at _ _
            have HM2 := Go.Lib.hid (HM1.out.alloc (Obj.cells #[.int .i64 p, .int .i64 q, .int .i64 br] 54))
            rw [hwx] at HM2
            have hnx1 := Nat.ne_of_lt HM1.out.mem.gxl.2
            have hnm1 := Nat.ne_of_lt HM1.out.mem.gml.2
            have hng1 := Nat.ne_of_lt (blk_lt2 HM1.out.b5)
            have hgne := HM1.out.mem.ne
            have hg1 := HM1.out.n5x
            have hg2 := HM1.out.n5m
            clear HM1 hjL HR hwx c0 c1 c2 lg
            generalize wr.heap.size = bb at *
            obtain ⟨a0, a1, a2, a3⟩ := HM2.out.cells
            obtain ⟨x1, f1⟩ := HM2.out.mem.cellX hval.xl hp
            obtain ⟨x2, f2⟩ := HM2.out.mem.cellX hval.xl hq
            have k0 := blk_cell hbk 0
            have k1 := blk_cell hbk 1
            have k2 := blk_cell hbk 2
            simp at k0 k1 k2
            have lx := HM2.out.mem.gxl.2
            have lb := blk_lt2 hbk
            have l5 := blk_lt2 HM2.out.b5
            have hsh := step_hot (i := j) (p := p) (q := q) (r := br) (s := r)
            have hsc := step_cold (i := j) (p := p) (q := q) (r := br) (s := r)
            obtain ⟨xp, hxp⟩ : ∃ xp, r.x.getD p 0 = xp := ⟨_, rfl⟩
            obtain ⟨xq, hxq⟩ : ∃ xq, r.x.getD q 0 = xq := ⟨_, rfl⟩
            rw [hxp] at hsh hsc hvp x1
            rw [hxq] at hsh hsc hvq x2
            have HXQ := Go.Lib.hid hxq
            have HSH := Go.Lib.hid hsh
            have HSC := Go.Lib.hid hsc
            clear hxp hxq hsh hsc
            refine region_ext mixed (by kernel_rfl) ?_
            repeat (go_big_quiet_step (fail))
            refine wpQuiet_nil ?_
            intro w3 hb3
            have HM3 := Go.Lib.hid (HM2.out.on hb3)
            have hbk3 := (hb3.block _ lb).trans hbk
            clear x1 f1 x2 f2 k0 k1 k2 lx lb l5 a0 a1 a2 a3 HM2 hbk hb3
            obtain ⟨a0, a1, a2, a3⟩ := HM3.out.cells
            obtain ⟨x2, f2⟩ := HM3.out.mem.cellX hval.xl hq
            rw [HXQ.out] at x2
            have k1 := blk_cell hbk3 1
            simp at k1
            have lx := HM3.out.mem.gxl.2
            have lb := blk_lt2 hbk3
            have l5 := blk_lt2 HM3.out.b5
            by_cases hot : xq < xp + br
            · rw [HSH.out hot] at HNX
              go_wp2
              obtain ⟨x3, f3⟩ := HM3.out.mem.cellM (by rw [ups_len]; exact hval.ml) hq
              obtain ⟨mq, hmq⟩ : ∃ mq, (ups r.m).getD q 0 = mq := ⟨_, rfl⟩
              rw [hmq] at x3
              have lm := HM3.out.mem.gml.2
              have hM5 := ((HM3.out.on (Below.drew (Below.refl _ _))).storeX hB q (xp + br)).storeM hB q ((j : Int) + 1) |>.storeL hB ((q : Int) + 1)
              rw [ups_set] at hM5
              have HM5 := Go.Lib.hid hM5
              have hne4 : ¬ gm = gx := fun e => hgne e.symm
              have hne5 : ¬ gx = gm := hgne
              have hg3 : ¬ gx = g := fun e => hg1 e.symm
              have hg4 : ¬ gm = g := fun e => hg2 e.symm
              clear HM3 hbk3 hot hmq hM5
              go_region
              go_wp2
              go_roundw
              case rel => exact ⟨j + 1, _, by omega, by go_num, HNX, HM5⟩
              case measure => simp [intOf]; omega
            · rw [HSC.out hot] at HNX
              have hcold : ¬ xq < xp + br := hot
              go_wp2
              exact ⟨⟨j + 1, r, by omega, by go_num, HNX, HM3⟩, by simp [intOf]; omega⟩
          · have hjm' : ¬ ((j : Int) < (m : Int)) := by omega
            have hjL : j = L.length := by have := HM.out; omega
            have HR2 : Hid (RMid n L k L.length s r) := Go.Lib.hid (hjL ▸ HR.out)
            clear HR
            have hlast := hval.last
            obtain ⟨a0, a1, a2, a3⟩ := HM1.out.cells
            have b0 := blk_cell HM1.out.b4
            have c0 := b0 0
            have c1 := b0 1
            have c2 := b0 2
            simp at c0 c1 c2
            have f0 := blk_frozen HM1.out.b4 0
            have f1 := blk_frozen HM1.out.b4 1
            have f2 := blk_frozen HM1.out.b4 2
            clear b0
            by_cases hst : r.last = -1
            · have hst2 : r.last + 1 = 0 := by omega
              have hf := HR2.out.stop HS.out hlt hst
              subst hf
              go_wp2
              obtain ⟨r1, r2, r3⟩ := HM1.out.result (.slice (some ⟨gx, 0, none⟩) n n) (.slice (some ⟨gm, 0, none⟩) n n) (.int .i64 0)
              exact bodyPost_ret (by simp [results, Try.results55, go_sem, *]) rfl ⟨gx, gm, 0, rfl, hst2.symm, HM1.out.mem.ne, r1, r2, r3⟩
            · have hst2 : ¬ r.last + 1 = 0 := by omega
              have HS2 := Go.Lib.hid (HR2.out.more HS.out hlt hst)
              go_wp2
              exact ⟨⟨k + 1, r, by omega, by go_num, HS2, HM1⟩, by simp [intOf]; omega⟩
      · have hlt' : ¬ ((k : Int) < (n : Int)) := by omega
        have hkn : k = n := by omega
        subst hkn
        have hf := HS.out.end_
        subst hf
        obtain ⟨a0, a1, a2, a3⟩ := HM0.out.cells
        have b0 := blk_cell HM0.out.b4
        have c0 := b0 0
        have c1 := b0 1
        have c2 := b0 2
        simp at c0 c1 c2
        have f0 := blk_frozen HM0.out.b4 0
        have f1 := blk_frozen HM0.out.b4 1
        have f2 := blk_frozen HM0.out.b4 2
        clear b0
        go_wp2
        obtain ⟨r1, r2, r3⟩ := HM0.out.result (.slice (some ⟨gx, 0, none⟩) k k) (.slice (some ⟨gm, 0, none⟩) k k) (.int .i64 ((fin k L).last + 1))
        exact bodyPost_ret (by simp [results, Try.results55, go_sem, *]) rfl ⟨gx, gm, _, rfl, rfl, HM0.out.mem.ne, r1, r2, r3⟩
end Go.Proofs.Ythannibclhidcaa
