/- Layer 9: the reference's rounds. -/
import Derived.Test.YthannibclhidcaaLeMem
namespace Go.Proofs.Ythannibclhidcaa
set_option linter.unusedVariables false
set_option linter.unusedSimpArgs false
open Go.RowKit
attribute [local go_sem] max_fold min_fold

def RRPost (n : Nat) (L : List T3) (w : World) (e : Ending) (w' : World) : Prop := ∃ gx gm, e = .returned (.tuple #[.slice (some ⟨gx, 0, none⟩) n n, .slice (some ⟨gm, 0, none⟩) n n, .int .i64 (fin n L).last]) ∧ gx ≠ gm ∧ w'.ownsRow w.heap.size 3 1 (.slice (some ⟨gx, 0, none⟩) n n) n (ints (fin n L).x) ∧ w'.ownsRow w.heap.size 3 1 (.slice (some ⟨gm, 0, none⟩) n n) n (ints (fin n L).m) ∧ Below w.heap.size w w'

theorem alloc_at (w : World) (o : Obj) : (w.alloc o).heap[w.heap.size]? = some o := by
  show (w.heap.push o)[w.heap.size]? = some o
  simp
theorem neg_init (n k : Nat) (h : k < n) : (List.replicate k (-1 : Int) ++ List.replicate (n - k) 0).set k (-1) = List.replicate (k + 1) (-1 : Int) ++ List.replicate (n - (k + 1)) 0 := by
  apply List.ext_getElem
  · simp; omega
  · intro i h1 h2
    simp only [List.getElem_set, List.getElem_append, List.length_replicate, List.getElem_replicate]
    split
    · split <;> first | rfl | omega
    · split <;> split <;> first | rfl | omega

set_option maxRecDepth 100000 in
set_option maxHeartbeats 8000000 in
theorem rrounds_any (B : Nat) (A : Option Addr) (c n : Nat) (L : List T3) (w : World) (hA : At B w A (t3s L)) (hB : B ≤ w.heap.size) (hn : n ≤ 4096) (hl : L.length ≤ 4096) (hL : okL n L) :
    Calls Try.prog 57 #[.int .i64 n, .slice A L.length c] w (RRPost n L w) := by
  obtain ⟨m, hm⟩ : ∃ m, L.length = m := ⟨_, rfl⟩
  have HM := Go.Lib.hid hm
  have HO := Go.Lib.hid hL
  have hlm : m ≤ 4096 := by omega
  rw [hm]
  clear hm hl hL
  go_enter Try.func57, Try.ntmps57
  go_wp2_with (first | (at_make; refine make_ints rfl (.tmp 14) (.tmp 14) rfl w.heap.size n rfl rfl (by omega) (Nat.le_refl _) ?_))
  intro w1 hown1 hgr1
  have hb1 : Below w.heap.size w w1 := (Below.refl _ _).grown hgr1 (Nat.le_refl _) (fun k hk => by cases hk)
  have hsz1 : w.heap.size < w1.heap.size := (hown1.lt w.heap.size rfl).2
  go_wp2_with (first | (at_make; refine make_ints rfl (.tmp 16) (.tmp 16) rfl w.heap.size n rfl rfl (by omega) (by omega) ?_))
  intro w2 hown2 hgr2
  have hb2 : Below w.heap.size w w2 := hb1.grown hgr2 (by omega) (fun k hk => by cases hk)
  have hm2 : RMem B w A L n w.heap.size w1.heap.size (List.replicate n 0) (List.replicate 0 (-1) ++ List.replicate (n - 0) 0) w2 :=
    ⟨hb2, hA.below (hb2.mono hB), own_kept hown1 hgr2 (base' := w1.heap.size) (fun k hk => by simp [Value.ownBlock] at hk; omega) (fun k hk => by cases hk), by simpa using hown2, by omega⟩
  generalize w1.heap.size = gm at *
  clear hgr1 hown1 hb1 hsz1 hA hgr2 hown2 hb2
  go_wp2
  go_loopw [9] (fun i wr => ∃ k : Nat, k ≤ n ∧ i = .int .i64 k ∧ RMem B w A L n w.heap.size gm (List.replicate n 0) (List.replicate k (-1) ++ List.replicate (n - k) 0) wr) (fun i _ => n - (intOf i).toNat)
  case atStart => exact ⟨0, by omega, rfl, hm2⟩
  case round =>
    clear hm2
    obtain ⟨k, hk, rfl, hmem⟩ := hrel
    by_cases hlt : k < n
    · have hli : (k : Int) < (n : Int) := by omega
      obtain ⟨co, fo⟩ := hmem.cellM (i := k) (by simp; omega) hlt
      have hnx := hmem.storeM hB k (-1)
      rw [neg_init n k hlt] at hnx
      have HMEM := Go.Lib.hid hnx
      have hgl := hmem.gml
      clear hmem hnx
      generalize List.replicate k (-1 : Int) ++ List.replicate (n - k) 0 = M0 at *
      go_wp2
      go_roundw
      case rel => exact ⟨k + 1, by omega, by go_num, HMEM.out⟩
      case measure => simp [intOf]; omega
    · have hlt' : ¬ ((k : Int) < (n : Int)) := by omega
      have hkn : k = n := by omega
      have hmem0 : RMem B w A L n w.heap.size gm (start n).x (start n).m wr := by
        have := hmem
        rw [hkn, Nat.sub_self, List.replicate_zero, List.append_nil] at this
        exact this
      clear hmem
      have HS0 := Go.Lib.hid (RSt.start n L)
      have hls : (start n).last = -1 := rfl
      generalize start n = s0 at *
      have HM0 := Go.Lib.hid hmem0
      clear hmem0
      go_wp2
      go_loopw [10, 11] (fun la i wq => ∃ (k : Nat) (s : St), k ≤ n ∧ i = .int .i64 k ∧ la = .int .i64 s.last ∧ Hid (RSt n L k s) ∧ Hid (RMem B w A L n w.heap.size gm s.x s.m wq)) (fun _ i _ => n - (intOf i).toNat)
      case atStart => exact ⟨0, s0, by omega, rfl, by rw [hls], HS0, HM0⟩
      case round =>
        clear HS0 HM0 hls
        obtain ⟨k, s, hk, rfl, rfl, HS, HM0⟩ := hrel
        by_cases hlt : k < n
        · have hli : (k : Int) < (n : Int) := by omega
          have HR0 := Go.Lib.hid HS.out.mid
          go_wp2
          go_loopw [10, 12] (fun la i wq2 => ∃ (j : Nat) (r : St), j ≤ m ∧ i = .int .i64 j ∧ la = .int .i64 r.last ∧ Hid (RMid n L k j s r) ∧ Hid (RMem B w A L n w.heap.size gm r.x r.m wq2)) (fun _ i _ => m - (intOf i).toNat)
          case atStart => exact ⟨0, ⟨s.x, s.m, -1⟩, by omega, rfl, rfl, HR0, HM0⟩
          case round =>
            clear HR0 HM0
            obtain ⟨j, r, hj, rfl, rfl, HR, HM1⟩ := hrel
            have hval := HR.out.val (by omega) (by have := HM.out; omega) (by have := HM.out; omega)
            by_cases hjm : j < m
            · have hji : (j : Int) < (m : Int) := by omega
              have hjL : j < L.length := by have := HM.out; omega
              obtain ⟨g, o, rfl, hg, c0, c1, c2⟩ := HM1.out.arg.t3 hjL
              have hb := HO.out j hjL
              have HNX := Go.Lib.hid (HR.out.next HO.out hjL)
              rw [← bk_at hjL] at c0 c1 c2
              generalize bk L j = b at *
              obtain ⟨bp, bq, br⟩ := b
              obtain ⟨⟨hp0, hp1⟩, ⟨hq0, hq1⟩, hr0, hr1⟩ := hb
              simp only at hp0 hp1 hq0 hq1 hr0 hr1 c0 c1 c2
              obtain ⟨p, rfl⟩ : ∃ p : Nat, bp = (p : Int) := ⟨bp.toNat, by omega⟩
              obtain ⟨q, rfl⟩ : ∃ q : Nat, bq = (q : Int) := ⟨bq.toNat, by omega⟩
              have hp : p < n := by omega
              have hq : q < n := by omega
              have hvp := hval.bd p hp
              have hvq := hval.bd q hq
              have lg := World.block_lt_of_cell? _ _ c0
              have hsq := HM1.out.size
              go_wp2
              generalize hwx : World.alloc _ _ = wx
              have hbk : wx.heap[wr.heap.size]? = some (.cells #[.int .i64 p, .int .i64 q, .int .i64 br] 54 (0, 0)) := by rw [← hwx]; exact alloc_at _ _
              have HM2 := Go.Lib.hid (HM1.out.alloc (Obj.cells #[.int .i64 p, .int .i64 q, .int .i64 br] 54))
              rw [hwx] at HM2
              have hnx1 := Nat.ne_of_lt HM1.out.gxl.2
              have hnm1 := Nat.ne_of_lt HM1.out.gml.2
              have hgne := HM1.out.ne
              clear HM1 hjL HR hwx c0 c1 c2 lg
              generalize wr.heap.size = bb at *
              obtain ⟨x1, f1⟩ := HM2.out.cellX hval.xl hp
              obtain ⟨x2, f2⟩ := HM2.out.cellX hval.xl hq
              have k0 := blk_cell hbk 0
              have k1 := blk_cell hbk 1
              have k2 := blk_cell hbk 2
              simp at k0 k1 k2
              have lx := HM2.out.gxl.2
              have lb := blk_lt2 hbk
              have hsh := step_hot (i := j) (p := p) (q := q) (r := br) (s := r)
              have hsc := step_cold (i := j) (p := p) (q := q) (r := br) (s := r)
              obtain ⟨xp, hxp⟩ : ∃ xp, r.x.getD p 0 = xp := ⟨_, rfl⟩
              obtain ⟨xq, hxq⟩ : ∃ xq, r.x.getD q 0 = xq := ⟨_, rfl⟩
              obtain ⟨mq, hmq⟩ : ∃ mq, r.m.getD q 0 = mq := ⟨_, rfl⟩
              rw [hxp] at hsh hsc hvp x1
              rw [hxq] at hsh hsc hvq x2
              have HXP := Go.Lib.hid hxp
              have HXQ := Go.Lib.hid hxq
              have HMQ := Go.Lib.hid hmq
              have HSH := Go.Lib.hid hsh
              have HSC := Go.Lib.hid hsc
              clear hxp hxq hmq hsh hsc
              by_cases hot : xq < xp + br
              · rw [HSH.out hot] at HNX
                refine region_ext mixed (by kernel_rfl) ?_
                repeat (go_big_quiet_step (fail))
                refine wpQuiet_nil ?_
                intro w3 hb3
                have HM3 := Go.Lib.hid (HM2.out.on hb3)
                have hbk3 := (hb3.block _ lb).trans hbk
                clear x1 f1 x2 f2 k0 k1 k2 lx lb HM2 hbk hb3
                obtain ⟨x1, f1⟩ := HM3.out.cellX hval.xl hp
                rw [HXP.out] at x1
                have k0 := blk_cell hbk3 0
                have k1 := blk_cell hbk3 1
                have k2 := blk_cell hbk3 2
                simp at k0 k1 k2
                have lx := HM3.out.gxl.2
                have lb := blk_lt2 hbk3
                go_wp2
                refine region_ext_last 1 mixed (by kernel_rfl) ?_
                simp only [List.length_cons, List.length_nil, Nat.reduceAdd, Nat.reduceSub, List.take_succ_cons, List.take_zero, List.drop_succ_cons, List.drop_zero]
                repeat (go_big_quiet_step (fail))
                refine wpQuiet_nil ?_
                intro w4 hb4
                have HM4 := Go.Lib.hid (HM3.out.on hb4)
                have hbk4 := (hb4.block _ lb).trans hbk3
                clear x1 f1 k0 k1 k2 lx lb HM3 hbk3 hb4
                obtain ⟨x2, f2⟩ := HM4.out.cellX hval.xl hq
                obtain ⟨x3, f3⟩ := HM4.out.cellM hval.ml hq
                rw [HXQ.out] at x2
                rw [HMQ.out] at x3
                have k1 := blk_cell hbk4 1
                simp at k1
                have lx := HM4.out.gxl.2
                have lm := HM4.out.gml.2
                have lb := blk_lt2 hbk4
                have HM5 := Go.Lib.hid ((HM4.out.storeX hB q (xp + br)).storeM hB q (j : Int))
                have hne2 : ¬ bb = w.heap.size := fun e => hnx1 e.symm
                have hne3 : ¬ bb = gm := fun e => hnm1 e.symm
                have hne4 : ¬ gm = w.heap.size := fun e => hgne e.symm
                clear HM4 hbk4 hot
                go_wp2
                go_roundw
                case rel => exact ⟨j + 1, _, by omega, by go_num, rfl, HNX, HM5⟩
                case measure => simp [intOf]; omega
              · rw [HSC.out hot] at HNX
                have hcold : decide (xq < xp + br) = false := by simp; omega
                refine region_ext mixed (by kernel_rfl) ?_
                repeat (go_big_quiet_step (fail))
                refine wpQuiet_nil ?_
                intro w3 hb3
                have HM3 := Go.Lib.hid (HM2.out.on hb3)
                clear x1 f1 x2 f2 k0 k1 k2 lx lb HM2 hbk hb3
                go_wp2
                exact ⟨⟨j + 1, r, by omega, by go_num, rfl, HNX, HM3⟩, by simp [intOf]; omega⟩
            · have hjm' : ¬ ((j : Int) < (m : Int)) := by omega
              have hjL : j = L.length := by have := HM.out; omega
              have HR2 : Hid (RMid n L k L.length s r) := Go.Lib.hid (hjL ▸ HR.out)
              clear HR
              have hlast := hval.last
              by_cases hst : r.last = -1
              · have hst2 : r.last < 0 := by omega
                have hf := HR2.out.stop HS.out hlt hst
                subst hf
                go_wp2
                exact bodyPost_ret (by simp [results, Try.results57, go_sem, *]) rfl ⟨_, _, congrArg (fun z => Ending.returned (.tuple #[.slice _ n n, .slice _ n n, .int .i64 z])) hst.symm, HM1.out.ne, HM1.out.ox, HM1.out.om, HM1.out.below⟩
              · have hst2 : ¬ r.last < 0 := by omega
                have HS2 := Go.Lib.hid (HR2.out.more HS.out hlt hst)
                go_wp2
                exact ⟨⟨k + 1, r, by omega, by go_num, rfl, HS2, HM1⟩, by simp [intOf]; omega⟩
        · have hlt' : ¬ ((k : Int) < (n : Int)) := by omega
          have hkn : k = n := by omega
          subst hkn
          have hf := HS.out.end_
          subst hf
          go_wp2
          exact bodyPost_ret (by simp [results, Try.results57, go_sem, *]) rfl ⟨_, _, rfl, HM0.out.ne, HM0.out.ox, HM0.out.om, HM0.out.below⟩
end Go.Proofs.Ythannibclhidcaa
