/- Layer 9: what memory holds while rounds are made. -/
import Derived.Test.YtjippgflempdmaaMgLe
import Derived.Test.YtjippgflempdmaaMgFlex
import Derived.Deep.RegionWith
import Derived.Deep.CutRange
import Derived.Deep.LoopGhost
import Derived.Deep.OwnRows
namespace Go.Proofs.Ytjippgflempdmaa
set_option linter.unusedVariables false
set_option linter.unusedSimpArgs false
set_option maxRecDepth 100000
open Go.RowKit

structure RMem (B : Nat) (w : World) (A : Option Addr) (L : List T3) (n gx gm : Nat) (X M : List Int) (wr : World) : Prop where
  below : Below w.heap.size w wr
  arg : At B wr A (t3s L)
  ox : wr.ownsRow w.heap.size 3 1 (.slice (some ⟨gx, 0, none⟩) n n) n (ints X)
  om : wr.ownsRow w.heap.size 3 1 (.slice (some ⟨gm, 0, none⟩) n n) n (ints M)
  ne : gx ≠ gm
section
variable {B n gx gm : Nat} {w wr w' : World} {A : Option Addr} {L : List T3} {X M : List Int}
theorem RMem.size (h : RMem B w A L n gx gm X M wr) : w.heap.size ≤ wr.heap.size := h.below.size
theorem RMem.gxl (h : RMem B w A L n gx gm X M wr) : w.heap.size ≤ gx ∧ gx < wr.heap.size := h.ox.lt gx rfl
theorem RMem.gml (h : RMem B w A L n gx gm X M wr) : w.heap.size ≤ gm ∧ gm < wr.heap.size := h.om.lt gm rfl
theorem RMem.alloc (h : RMem B w A L n gx gm X M wr) (o : Obj) : RMem B w A L n gx gm X M (wr.alloc o) :=
  ⟨h.below.alloc h.size o, h.arg.ext ((Below.refl _ _).alloc (Nat.le_refl _) o), h.ox.alloc o, h.om.alloc o, h.ne⟩
theorem RMem.on (h : RMem B w A L n gx gm X M wr) (hb : Below wr.heap.size wr w') : RMem B w A L n gx gm X M w' :=
  ⟨h.below.trans (hb.mono h.size), h.arg.ext hb, own_below' h.ox hb, own_below' h.om hb, h.ne⟩
theorem RMem.storeX (h : RMem B w A L n gx gm X M wr) (hB : B ≤ w.heap.size) (i : Nat) (u : Int) : RMem B w A L n gx gm (X.set i u) M (wr.setCell ⟨gx, i, none⟩ (.int .i64 u)) := by
  have h1 := own_store h.ox i (.int .i64 u)
  rw [ints_set] at h1
  exact ⟨h.below.setCell (p := ⟨gx, i, none⟩) h.gxl.1 _, h.arg.below ((Below.refl B wr).setCell (p := ⟨gx, i, none⟩) (Nat.le_trans hB h.gxl.1) _), h1, own_off h.om (fun e => h.ne (by injection e with e; exact e.symm)), h.ne⟩
theorem RMem.storeM (h : RMem B w A L n gx gm X M wr) (hB : B ≤ w.heap.size) (i : Nat) (u : Int) : RMem B w A L n gx gm X (M.set i u) (wr.setCell ⟨gm, i, none⟩ (.int .i64 u)) := by
  have h1 := own_store h.om i (.int .i64 u)
  rw [ints_set] at h1
  exact ⟨h.below.setCell (p := ⟨gm, i, none⟩) h.gml.1 _, h.arg.below ((Below.refl B wr).setCell (p := ⟨gm, i, none⟩) (Nat.le_trans hB h.gml.1) _), own_off h.ox (fun e => h.ne (by injection e)), h1, h.ne⟩
theorem RMem.cellX (h : RMem B w A L n gx gm X M wr) (hX : X.length = n) {i : Nat} (hi : i < n) : wr.cell? ⟨gx, i, none⟩ = some (.int .i64 (X.getD i 0)) ∧ wr.frozen? ⟨gx, i, none⟩ = false := by
  refine ⟨?_, h.ox.frozenAt i⟩
  rw [h.ox.cellAt i (by omega), ints_at X i (by omega)]
  simp [List.getD, show i < X.length by omega]
theorem RMem.cellM (h : RMem B w A L n gx gm X M wr) (hM : M.length = n) {i : Nat} (hi : i < n) : wr.cell? ⟨gm, i, none⟩ = some (.int .i64 (M.getD i 0)) ∧ wr.frozen? ⟨gm, i, none⟩ = false := by
  refine ⟨?_, h.om.frozenAt i⟩
  rw [h.om.cellAt i (by omega), ints_at M i (by omega)]
  simp [List.getD, show i < M.length by omega]
end
/-- The rounds still to make, and that what they come to is told. -/
structure RSt (n : Nat) (L : List T3) (k : Nat) (s : St) : Prop where
  fin : roundsB L (n - k) s = fin n L
  inv : ∃ K t, Inv n L K 0 ⟨s.x, s.m, -1⟩ t ∧ K ≤ k * L.length
theorem RSt.start (n : Nat) (L : List T3) : RSt n L 0 (start n) := ⟨rfl, 0, _, Inv.start n L, by omega⟩
/-- One round, in the midst. -/
structure RMid (n : Nat) (L : List T3) (k i : Nat) (s r : St) : Prop where
  eq : r = stepsB L i ⟨s.x, s.m, -1⟩
  inv : ∃ K t, Inv n L K i r t ∧ K ≤ k * L.length
theorem RSt.mid {n : Nat} {L : List T3} {k : Nat} {s : St} (h : RSt n L k s) : RMid n L k 0 s ⟨s.x, s.m, -1⟩ := ⟨rfl, h.inv⟩
theorem RMid.next {n : Nat} {L : List T3} {k i : Nat} {s r : St} (h : RMid n L k i s r) (hL : okL n L) (hi : i < L.length) : RMid n L k (i + 1) s (stepB i (bk L i) r) := by
  obtain ⟨e, K, t, hI, hK⟩ := h
  obtain ⟨t', h'⟩ := hI.step hL hi
  exact ⟨by rw [e]; rfl, K, t', h', hK⟩
theorem RMid.done {n : Nat} {L : List T3} {k : Nat} {s r : St} (h : RMid n L k L.length s r) : r = roundB L s := h.eq
theorem RMid.stop {n : Nat} {L : List T3} {k : Nat} {s r : St} (h : RMid n L k L.length s r) (hs : RSt n L k s) (hk : k < n) (hl : r.last = -1) : r = Go.Proofs.Ytjippgflempdmaa.fin n L := by
  have e := h.done
  rw [← hs.fin, show n - k = (n - k - 1) + 1 by omega]
  rw [e] at hl ⊢
  simp only [roundsB, hl, if_true]
theorem RMid.more {n : Nat} {L : List T3} {k : Nat} {s r : St} (h : RMid n L k L.length s r) (hs : RSt n L k s) (hk : k < n) (hl : ¬ r.last = -1) : RSt n L (k + 1) r := by
  have e := h.done
  refine ⟨?_, ?_⟩
  · rw [← hs.fin, show n - k = (n - (k + 1)) + 1 by omega]
    rw [e] at hl ⊢
    simp only [roundsB, hl, if_false]
  · obtain ⟨_, K, t, hI, hK⟩ := h
    exact ⟨K + L.length, t, hI.next, by rw [Nat.add_mul]; omega⟩
theorem RSt.end_ {n : Nat} {L : List T3} {s : St} (h : RSt n L n s) : s = Go.Proofs.Ytjippgflempdmaa.fin n L := by
  rw [← h.fin, Nat.sub_self]
  rfl
structure RVal (n : Nat) (i : Nat) (r : St) : Prop where
  xl : r.x.length = n
  ml : r.m.length = n
  bd : ∀ v, v < n → 0 ≤ r.x.getD v 0 ∧ r.x.getD v 0 ≤ 18000000000000
  last : -1 ≤ r.last ∧ r.last < n
theorem RMid.val {n : Nat} {L : List T3} {k i : Nat} {s r : St} (h : RMid n L k i s r) (hk : k ≤ 4096) (hl : L.length ≤ 4096) (hi : i ≤ L.length) : RVal n i r := by
  obtain ⟨_, K, t, hI, hK⟩ := h
  refine ⟨hI.xl, hI.ml, fun v hv => ?_, ?_⟩
  · have := hI.bd v hv
    have h2 : k * L.length ≤ 4096 * 4096 := Nat.mul_le_mul hk hl
    omega
  · rcases hI.last with ⟨e, _⟩ | ⟨v, hv, e, _⟩ <;> omega
theorem step_hot {i : Nat} {p q : Nat} {r : Int} {s : St} (h : s.x.getD q 0 < s.x.getD p 0 + r) : stepB i ⟨(p : Int), (q : Int), r⟩ s = ⟨s.x.set q (s.x.getD p 0 + r), s.m.set q (i : Int), (q : Int)⟩ := by
  unfold stepB gi
  simp only [Int.toNat_natCast]
  rw [if_pos h]
theorem step_cold {i : Nat} {p q : Nat} {r : Int} {s : St} (h : ¬ s.x.getD q 0 < s.x.getD p 0 + r) : stepB i ⟨(p : Int), (q : Int), r⟩ s = s := by
  unfold stepB gi
  simp only [Int.toNat_natCast]
  rw [if_neg h]
end Go.Proofs.Ytjippgflempdmaa

/- Layer 9: the reference's rounds. -/
namespace Go.Proofs.Ytjippgflempdmaa
set_option linter.unusedVariables false
set_option linter.unusedSimpArgs false
set_option maxRecDepth 100000
open Go.RowKit
attribute [local go_sem] max_fold min_fold

def RRPost (n : Nat) (L : List T3) (w : World) (e : Ending) (w' : World) : Prop := ∃ gx gm, e = .returned (.tuple #[.slice (some ⟨gx, 0, none⟩) n n, .slice (some ⟨gm, 0, none⟩) n n, .int .i64 (fin n L).last]) ∧ gx ≠ gm ∧ w'.ownsRow w.heap.size 3 1 (.slice (some ⟨gx, 0, none⟩) n n) n (ints (fin n L).x) ∧ w'.ownsRow w.heap.size 3 1 (.slice (some ⟨gm, 0, none⟩) n n) n (ints (fin n L).m) ∧ Below w.heap.size w w'

theorem alloc_at (w : World) (o : Obj) : (w.alloc o).heap[w.heap.size]? = some o := by
  show (w.heap.push o)[w.heap.size]? = some o
  simp
theorem neg_init (n k : Nat) (h : k < n) : (List.replicate k (-1 : Int) ++ List.replicate (n - k) 0).set k (-1) = List.replicate (k + 1) (-1 : Int) ++ List.replicate (n - (k + 1)) 0 := by
  apply List.ext_getElem
  · simp; omega
  · intro i h1 h2
    simp only [List.getElem_set, List.getElem_append, List.length_replicate, List.getElem_replicate]
    split
    · split <;> first | rfl | omega
    · split <;> split <;> first | rfl | omega

set_option maxRecDepth 100000 in
set_option maxHeartbeats 8000000 in
theorem rrounds_any (B : Nat) (A : Option Addr) (c n : Nat) (L : List T3) (w : World) (hA : At B w A (t3s L)) (hB : B ≤ w.heap.size) (hn : n ≤ 4096) (hl : L.length ≤ 4096) (hL : okL n L) :
    Calls Try.prog 87 #[.int .i64 n, .slice A L.length c] w (RRPost n L w) := by
  obtain ⟨m, hm⟩ : ∃ m, L.length = m := ⟨_, rfl⟩
  have HM := Go.Lib.hid hm
  have HO := Go.Lib.hid hL
  have hlm : m ≤ 4096 := by omega
  rw [hm]
  clear hm hl hL
  go_enter Try.func87, Try.ntmps87
  go_wp2_with (first | (at_make; refine make_ints rfl (.tmp 14) (.tmp 14) rfl w.heap.size n rfl rfl (by omega) (Nat.le_refl _) ?_))
  intro w1 hown1 hgr1
  have hb1 : Below w.heap.size w w1 := (Below.refl _ _).grown hgr1 (Nat.le_refl _) (fun k hk => by cases hk)
  have hsz1 : w.heap.size < w1.heap.size := (hown1.lt w.heap.size rfl).2
  go_wp2_with (first | (at_make; refine make_ints rfl (.tmp 16) (.tmp 16) rfl w.heap.size n rfl rfl (by omega) (by omega) ?_))
  intro w2 hown2 hgr2
  have hb2 : Below w.heap.size w w2 := hb1.grown hgr2 (by omega) (fun k hk => by cases hk)
  have hm2 : RMem B w A L n w.heap.size w1.heap.size (List.replicate n 0) (List.replicate 0 (-1) ++ List.replicate (n - 0) 0) w2 :=
    ⟨hb2, hA.below (hb2.mono hB), own_kept hown1 hgr2 (base' := w1.heap.size) (fun k hk => by simp [Value.ownBlock] at hk; omega) (fun k hk => by cases hk), by simpa using hown2, by omega⟩
  generalize w1.heap.size = gm at *
  clear hgr1 hown1 hb1 hsz1 hA hgr2 hown2 hb2
  go_wp2
  go_loopw [9] (fun i wr => ∃ k : Nat, k ≤ n ∧ i = .int .i64 k ∧ RMem B w A L n w.heap.size gm (List.replicate n 0) (List.replicate k (-1) ++ List.replicate (n - k) 0) wr) (fun i _ => n - (intOf i).toNat)
  case atStart => exact ⟨0, by omega, rfl, hm2⟩
  case round =>
    clear hm2
    obtain ⟨k, hk, rfl, hmem⟩ := hrel
    by_cases hlt : k < n
    · have hli : (k : Int) < (n : Int) := by omega
      obtain ⟨co, fo⟩ := hmem.cellM (i := k) (by simp; omega) hlt
      have hnx := hmem.storeM hB k (-1)
      rw [neg_init n k hlt] at hnx
      have HMEM := Go.Lib.hid hnx
      have hgl := hmem.gml
      clear hmem hnx
      generalize List.replicate k (-1 : Int) ++ List.replicate (n - k) 0 = M0 at *
      go_wp2
      go_roundw
      case rel => exact ⟨k + 1, by omega, by go_num, HMEM.out⟩
      case measure => simp [intOf]; omega
    · have hlt' : ¬ ((k : Int) < (n : Int)) := by omega
      have hkn : k = n := by omega
      have hmem0 : RMem B w A L n w.heap.size gm (start n).x (start n).m wr := by
        have := hmem
        rw [hkn, Nat.sub_self, List.replicate_zero, List.append_nil] at this
        exact this
      clear hmem
      have HS0 := Go.Lib.hid (RSt.start n L)
      have hls : (start n).last = -1 := rfl
      generalize start n = s0 at *
      have HM0 := Go.Lib.hid hmem0
      clear hmem0
      go_wp2
      go_loopw [10, 11] (fun la i wq => ∃ (k : Nat) (s : St), k ≤ n ∧ i = .int .i64 k ∧ la = .int .i64 s.last ∧ Hid (RSt n L k s) ∧ Hid (RMem B w A L n w.heap.size gm s.x s.m wq)) (fun _ i _ => n - (intOf i).toNat)
      case atStart => exact ⟨0, s0, by omega, rfl, by rw [hls], HS0, HM0⟩
      case round =>
        clear HS0 HM0 hls
        obtain ⟨k, s, hk, rfl, rfl, HS, HM0⟩ := hrel
        by_cases hlt : k < n
        · have hli : (k : Int) < (n : Int) := by omega
          have HR0 := Go.Lib.hid HS.out.mid
          go_wp2
          go_loopw [10, 12] (fun la i wq2 => ∃ (j : Nat) (r : St), j ≤ m ∧ i = .int .i64 j ∧ la = .int .i64 r.last ∧ Hid (RMid n L k j s r) ∧ Hid (RMem B w A L n w.heap.size gm r.x r.m wq2)) (fun _ i _ => m - (intOf i).toNat)
          case atStart => exact ⟨0, ⟨s.x, s.m, -1⟩, by omega, rfl, rfl, HR0, HM0⟩
          case round =>
            clear HR0 HM0
            obtain ⟨j, r, hj, rfl, rfl, HR, HM1⟩ := hrel
            have hval := HR.out.val (by omega) (by have := HM.out; omega) (by have := HM.out; omega)
            by_cases hjm : j < m
            · have hji : (j : Int) < (m : Int) := by omega
              have hjL : j < L.length := by have := HM.out; omega
              obtain ⟨g, o, rfl, hg, c0, c1, c2⟩ := HM1.out.arg.t3 hjL
              have hb := HO.out j hjL
              have HNX := Go.Lib.hid (HR.out.next HO.out hjL)
              rw [← bk_at hjL] at c0 c1 c2
              generalize bk L j = b at *
              obtain ⟨bp, bq, br⟩ := b
              obtain ⟨⟨hp0, hp1⟩, ⟨hq0, hq1⟩, hr0, hr1⟩ := hb
              simp only at hp0 hp1 hq0 hq1 hr0 hr1 c0 c1 c2
              obtain ⟨p, rfl⟩ : ∃ p : Nat, bp = (p : Int) := ⟨bp.toNat, by omega⟩
              obtain ⟨q, rfl⟩ : ∃ q : Nat, bq = (q : Int) := ⟨bq.toNat, by omega⟩
              have hp : p < n := by omega
              have hq : q < n := by omega
              have hvp := hval.bd p hp
              have hvq := hval.bd q hq
              have lg := World.block_lt_of_cell? _ _ c0
              have hsq := HM1.out.size
              go_wp2
              generalize hwx : World.alloc _ _ = wx
              have hbk : wx.heap[wr.heap.size]? = some (.cells #[.int .i64 p, .int .i64 q, .int .i64 br] 96 (0, 0)) := by rw [← hwx]; exact alloc_at _ _
              have HM2 := Go.Lib.hid (HM1.out.alloc (Obj.cells #[.int .i64 p, .int .i64 q, .int .i64 br] 96))
              rw [hwx] at HM2
              have hnx1 := Nat.ne_of_lt HM1.out.gxl.2
              have hnm1 := Nat.ne_of_lt HM1.out.gml.2
              have hgne := HM1.out.ne
              clear HM1 hjL HR hwx c0 c1 c2 lg
              generalize wr.heap.size = bb at *
              obtain ⟨x1, f1⟩ := HM2.out.cellX hval.xl hp
              obtain ⟨x2, f2⟩ := HM2.out.cellX hval.xl hq
              have k0 := blk_cell hbk 0
              have k1 := blk_cell hbk 1
              have k2 := blk_cell hbk 2
              simp at k0 k1 k2
              have lx := HM2.out.gxl.2
              have lb := blk_lt2 hbk
              have hsh := step_hot (i := j) (p := p) (q := q) (r := br) (s := r)
              have hsc := step_cold (i := j) (p := p) (q := q) (r := br) (s := r)
              obtain ⟨xp, hxp⟩ : ∃ xp, r.x.getD p 0 = xp := ⟨_, rfl⟩
              obtain ⟨xq, hxq⟩ : ∃ xq, r.x.getD q 0 = xq := ⟨_, rfl⟩
              obtain ⟨mq, hmq⟩ : ∃ mq, r.m.getD q 0 = mq := ⟨_, rfl⟩
              rw [hxp] at hsh hsc hvp x1
              rw [hxq] at hsh hsc hvq x2
              have HXP := Go.Lib.hid hxp
              have HXQ := Go.Lib.hid hxq
              have HMQ := Go.Lib.hid hmq
              have HSH := Go.Lib.hid hsh
              have HSC := Go.Lib.hid hsc
              clear hxp hxq hmq hsh hsc
              by_cases hot : xq < xp + br
              · rw [HSH.out hot] at HNX
                refine region_ext mixed (by kernel_rfl) ?_
                repeat (go_big_quiet_step (fail))
                refine wpQuiet_nil ?_
                intro w3 hb3
                have HM3 := Go.Lib.hid (HM2.out.on hb3)
                have hbk3 := (hb3.block _ lb).trans hbk
                clear x1 f1 x2 f2 k0 k1 k2 lx lb HM2 hbk hb3
                obtain ⟨x1, f1⟩ := HM3.out.cellX hval.xl hp
                rw [HXP.out] at x1
                have k0 := blk_cell hbk3 0
                have k1 := blk_cell hbk3 1
                have k2 := blk_cell hbk3 2
                simp at k0 k1 k2
                have lx := HM3.out.gxl.2
                have lb := blk_lt2 hbk3
                go_wp2
                refine region_ext_last 1 mixed (by kernel_rfl) ?_
                simp only [List.length_cons, List.length_nil, Nat.reduceAdd, Nat.reduceSub, List.take_succ_cons, List.take_zero, List.drop_succ_cons, List.drop_zero]
                repeat (go_big_quiet_step (fail))
                refine wpQuiet_nil ?_
                intro w4 hb4
                have HM4 := Go.Lib.hid (HM3.out.on hb4)
                have hbk4 := (hb4.block _ lb).trans hbk3
                clear x1 f1 k0 k1 k2 lx lb HM3 hbk3 hb4
                obtain ⟨x2, f2⟩ := HM4.out.cellX hval.xl hq
                obtain ⟨x3, f3⟩ := HM4.out.cellM hval.ml hq
                rw [HXQ.out] at x2
                rw [HMQ.out] at x3
                have k1 := blk_cell hbk4 1
                simp at k1
                have lx := HM4.out.gxl.2
                have lm := HM4.out.gml.2
                have lb := blk_lt2 hbk4
                have HM5 := Go.Lib.hid ((HM4.out.storeX hB q (xp + br)).storeM hB q (j : Int))
                have hne2 : ¬ bb = w.heap.size := fun e => hnx1 e.symm
                have hne3 : ¬ bb = gm := fun e => hnm1 e.symm
                have hne4 : ¬ gm = w.heap.size := fun e => hgne e.symm
                clear HM4 hbk4 hot
                go_wp2
                go_roundw
                case rel => exact ⟨j + 1, _, by omega, by go_num, rfl, HNX, HM5⟩
                case measure => simp [intOf]; omega
              · rw [HSC.out hot] at HNX
                have hcold : decide (xq < xp + br) = false := by simp; omega
                refine region_ext mixed (by kernel_rfl) ?_
                repeat (go_big_quiet_step (fail))
                refine wpQuiet_nil ?_
                intro w3 hb3
                have HM3 := Go.Lib.hid (HM2.out.on hb3)
                clear x1 f1 x2 f2 k0 k1 k2 lx lb HM2 hbk hb3
                go_wp2
                exact ⟨⟨j + 1, r, by omega, by go_num, rfl, HNX, HM3⟩, by simp [intOf]; omega⟩
            · have hjm' : ¬ ((j : Int) < (m : Int)) := by omega
              have hjL : j = L.length := by have := HM.out; omega
              have HR2 : Hid (RMid n L k L.length s r) := Go.Lib.hid (hjL ▸ HR.out)
              clear HR
              have hlast := hval.last
              by_cases hst : r.last = -1
              · have hst2 : r.last < 0 := by omega
                have hf := HR2.out.stop HS.out hlt hst
                subst hf
                go_wp2
                exact bodyPost_ret (by simp [results, Try.results87, go_sem, *]) rfl ⟨_, _, congrArg (fun z => Ending.returned (.tuple #[.slice _ n n, .slice _ n n, .int .i64 z])) hst.symm, HM1.out.ne, HM1.out.ox, HM1.out.om, HM1.out.below⟩
              · have hst2 : ¬ r.last < 0 := by omega
                have HS2 := Go.Lib.hid (HR2.out.more HS.out hlt hst)
                go_wp2
                exact ⟨⟨k + 1, r, by omega, by go_num, rfl, HS2, HM1⟩, by simp [intOf]; omega⟩
        · have hlt' : ¬ ((k : Int) < (n : Int)) := by omega
          have hkn : k = n := by omega
          subst hkn
          have hf := HS.out.end_
          subst hf
          go_wp2
          exact bodyPost_ret (by simp [results, Try.results87, go_sem, *]) rfl ⟨_, _, rfl, HM0.out.ne, HM0.out.ox, HM0.out.om, HM0.out.below⟩
end Go.Proofs.Ytjippgflempdmaa

/- Layer 9: what memory holds while the program's rounds are made. -/
namespace Go.Proofs.Ytjippgflempdmaa
set_option linter.unusedVariables false
set_option linter.unusedSimpArgs false
set_option maxRecDepth 100000
open Go.RowKit

def ups (l : List Int) : List Int := l.map (· + 1)
theorem ups_len (l : List Int) : (ups l).length = l.length := by simp [ups]
theorem ups_set (l : List Int) (i : Nat) (v : Int) : (ups l).set i (v + 1) = ups (l.set i v) := by simp [ups, List.map_set]
theorem ups_at (l : List Int) (i : Nat) (h : i < l.length) : (ups l).getD i 0 = l.getD i 0 + 1 := by simp [ups, List.getD, h]
theorem ups_start (n : Nat) : ups (List.replicate n (-1)) = List.replicate n 0 := by simp [ups]
def wcells (n gx gm : Nat) (last : Int) : Array Value := #[.slice (some ⟨gx, 0, none⟩) n n, .slice (some ⟨gm, 0, none⟩) n n, .int .i64 last]
structure PMem (B : Nat) (w : World) (A : Option Addr) (L : List T3) (n gx gm g4 g5 : Nat) (X M : List Int) (last : Int) (wr : World) : Prop where
  mem : RMem B w A L n gx gm X M wr
  b4 : wr.heap[g4]? = some (.cells #[.slice none 0 0, .slice none 0 0, .int .i64 0] 109 (0, 0))
  b5 : wr.heap[g5]? = some (.cells (wcells n gx gm last) 109 (0, 0))
  l4 : w.heap.size ≤ g4
  l5 : w.heap.size ≤ g5
  n45 : g4 ≠ g5
  n4x : g4 ≠ gx
  n4m : g4 ≠ gm
  n5x : g5 ≠ gx
  n5m : g5 ≠ gm
section
variable {B n gx gm g4 g5 : Nat} {w wr w' : World} {A : Option Addr} {L : List T3} {X M : List Int} {last : Int}
theorem blk_set (h : wr.heap[g5]? = some (.cells (wcells n gx gm last) 109 (0, 0))) (v : Int) : (wr.setCell ⟨g5, 2, none⟩ (.int .i64 v)).heap[g5]? = some (.cells (wcells n gx gm v) 109 (0, 0)) := by
  unfold World.setCell
  rw [Array.getElem?_modify, if_pos rfl, h]
  rfl
theorem PMem.on (h : PMem B w A L n gx gm g4 g5 X M last wr) (hb : Below wr.heap.size wr w') : PMem B w A L n gx gm g4 g5 X M last w' :=
  ⟨h.mem.on hb, (hb.block _ (blk_lt2 h.b4)).trans h.b4, (hb.block _ (blk_lt2 h.b5)).trans h.b5, h.l4, h.l5, h.n45, h.n4x, h.n4m, h.n5x, h.n5m⟩
theorem PMem.alloc (h : PMem B w A L n gx gm g4 g5 X M last wr) (o : Obj) : PMem B w A L n gx gm g4 g5 X M last (wr.alloc o) := h.on ((Below.refl _ _).alloc (Nat.le_refl _) o)
theorem PMem.storeX (h : PMem B w A L n gx gm g4 g5 X M last wr) (hB : B ≤ w.heap.size) (i : Nat) (u : Int) : PMem B w A L n gx gm g4 g5 (X.set i u) M last (wr.setCell ⟨gx, i, none⟩ (.int .i64 u)) :=
  ⟨h.mem.storeX hB i u, by rw [heap_setCell_other _ _ _ _ h.n4x]; exact h.b4, by rw [heap_setCell_other _ _ _ _ h.n5x]; exact h.b5, h.l4, h.l5, h.n45, h.n4x, h.n4m, h.n5x, h.n5m⟩
theorem PMem.storeM (h : PMem B w A L n gx gm g4 g5 X M last wr) (hB : B ≤ w.heap.size) (i : Nat) (u : Int) : PMem B w A L n gx gm g4 g5 X (M.set i u) last (wr.setCell ⟨gm, i, none⟩ (.int .i64 u)) :=
  ⟨h.mem.storeM hB i u, by rw [heap_setCell_other _ _ _ _ h.n4m]; exact h.b4, by rw [heap_setCell_other _ _ _ _ h.n5m]; exact h.b5, h.l4, h.l5, h.n45, h.n4x, h.n4m, h.n5x, h.n5m⟩
theorem PMem.storeL (h : PMem B w A L n gx gm g4 g5 X M last wr) (hB : B ≤ w.heap.size) (v : Int) : PMem B w A L n gx gm g4 g5 X M v (wr.setCell ⟨g5, 2, none⟩ (.int .i64 v)) :=
  ⟨⟨h.mem.below.setCell (p := ⟨g5, 2, none⟩) h.l5 _, h.mem.arg.below ((Below.refl B wr).setCell (p := ⟨g5, 2, none⟩) (Nat.le_trans hB h.l5) _), own_off h.mem.ox (fun e => h.n5x (by injection e with e; exact e.symm)), own_off h.mem.om (fun e => h.n5m (by injection e with e; exact e.symm)), h.mem.ne⟩,
    by rw [heap_setCell_other _ _ _ _ h.n45]; exact h.b4, blk_set h.b5 v, h.l4, h.l5, h.n45, h.n4x, h.n4m, h.n5x, h.n5m⟩
theorem PMem.cells (h : PMem B w A L n gx gm g4 g5 X M last wr) : wr.cell? ⟨g5, 0, none⟩ = some (.slice (some ⟨gx, 0, none⟩) n n) ∧ wr.cell? ⟨g5, 1, none⟩ = some (.slice (some ⟨gm, 0, none⟩) n n) ∧ wr.cell? ⟨g5, 2, none⟩ = some (.int .i64 last) ∧ wr.frozen? ⟨g5, 2, none⟩ = false := by
  have h1 := blk_cell h.b5
  exact ⟨by rw [h1 0]; rfl, by rw [h1 1]; rfl, by rw [h1 2]; rfl, blk_frozen h.b5 2⟩
theorem PMem.result (h : PMem B w A L n gx gm g4 g5 X M last wr) (u0 u1 u2 : Value) : (((wr.setCell ⟨g4, 0, none⟩ u0).setCell ⟨g4, 1, none⟩ u1).setCell ⟨g4, 2, none⟩ u2).ownsRow w.heap.size 3 1 (.slice (some ⟨gx, 0, none⟩) n n) n (ints X) ∧ (((wr.setCell ⟨g4, 0, none⟩ u0).setCell ⟨g4, 1, none⟩ u1).setCell ⟨g4, 2, none⟩ u2).ownsRow w.heap.size 3 1 (.slice (some ⟨gm, 0, none⟩) n n) n (ints M) ∧ Below w.heap.size w (((wr.setCell ⟨g4, 0, none⟩ u0).setCell ⟨g4, 1, none⟩ u1).setCell ⟨g4, 2, none⟩ u2) := by
  have e1 : (Value.slice (some ⟨gx, 0, none⟩) n n).ownBlock ≠ some g4 := fun e => h.n4x (by injection e with e; exact e.symm)
  have e2 : (Value.slice (some ⟨gm, 0, none⟩) n n).ownBlock ≠ some g4 := fun e => h.n4m (by injection e with e; exact e.symm)
  exact ⟨own_off (own_off (own_off h.mem.ox e1) e1) e1, own_off (own_off (own_off h.mem.om e2) e2) e2, ((h.mem.below.setCell (p := ⟨g4, 0, none⟩) h.l4 _).setCell (p := ⟨g4, 1, none⟩) h.l4 _).setCell (p := ⟨g4, 2, none⟩) h.l4 _⟩
end
def RPPost (n : Nat) (L : List T3) (w : World) (e : Ending) (w' : World) : Prop := ∃ gx gm k, e = .returned (.agg #[.slice (some ⟨gx, 0, none⟩) n n, .slice (some ⟨gm, 0, none⟩) n n, .int .i64 k]) ∧ k = (fin n L).last + 1 ∧ gx ≠ gm ∧ w'.ownsRow w.heap.size 3 1 (.slice (some ⟨gx, 0, none⟩) n n) n (ints (fin n L).x) ∧ w'.ownsRow w.heap.size 3 1 (.slice (some ⟨gm, 0, none⟩) n n) n (ints (ups (fin n L).m)) ∧ Below w.heap.size w w'
end Go.Proofs.Ytjippgflempdmaa

/- Layer 9: the program's rounds. -/
namespace Go.Proofs.Ytjippgflempdmaa
set_option linter.unusedVariables false
set_option linter.unusedSimpArgs false
set_option maxRecDepth 100000
open Go.RowKit
attribute [local go_sem] max_fold min_fold

theorem make_row (n : Nat) (hn : n ≤ 1000000) (w : World) : (Instr.makeSlice 23 (.int .i64 (n : Int)) (.int .i64 (n : Int))).run Try.prog w = .ok (.slice (some ⟨w.heap.size, 0, none⟩) n n) (w.alloc (.cells (madeCells #[.int .i64 0] n) 3)) :=
  run_make_row' 23 3 (.int .i64 0) 8 Try.underlying23 info_int rfl .i64 .i64 n (by omega) (by omega) w
theorem own_row {w : World} {B g n : Nat} (hB : B ≤ g) (hn : n ≤ 1000000) (h : w.heap[g]? = some (.cells (madeCells #[.int .i64 0] n) 3 (0, 0))) : w.ownsRow B 3 1 (.slice (some ⟨g, 0, none⟩) n n) n (ints (List.replicate n 0)) := by
  have e : (madeCells #[Value.int .i64 0] n).toList = ints (List.replicate n 0) := by
    simp [ints, toList_madeCells_one]
  have e2 : (madeCells #[Value.int .i64 0] n).size = n := by
    rw [← Array.length_toList, e]
    simp [ints]
  refine ⟨by simp [ints], .inr ⟨g, n, _, rfl, hB, h, Nat.le_refl _, by unfold maxLen; omega, by omega, ?_⟩⟩
  rw [e]
  simp [ints]
theorem PMem.made {B n gx gm g : Nat} {w wr : World} {A : Option Addr} {L : List T3} (hA : At B w A (t3s L)) (hB : B ≤ w.heap.size) (hn : n ≤ 1000000) (hb : Below w.heap.size w wr)
    (h4 : wr.heap[w.heap.size]? = some (.cells #[.slice none 0 0, .slice none 0 0, .int .i64 0] 109 (0, 0))) (hx : wr.heap[gx]? = some (.cells (madeCells #[.int .i64 0] n) 3 (0, 0))) (hm : wr.heap[gm]? = some (.cells (madeCells #[.int .i64 0] n) 3 (0, 0)))
    (h5 : wr.heap[g]? = some (.cells #[.slice (some ⟨gx, 0, none⟩) n n, .slice (some ⟨gm, 0, none⟩) n n, .int .i64 0] 109 (0, 0))) (l : w.heap.size < gx ∧ w.heap.size < gm ∧ w.heap.size < g ∧ gx ≠ gm ∧ g ≠ gx ∧ g ≠ gm) :
    PMem B w A L n gx gm w.heap.size g (List.replicate n 0) (List.replicate n 0) 0 wr := by
  obtain ⟨l1, l2, l3, l4, l5, l6⟩ := l
  exact ⟨⟨hb, hA.below (hb.mono hB), own_row (by omega) hn hx, own_row (by omega) hn hm, l4⟩, h4, h5, Nat.le_refl _, by omega, by omega, by omega, by omega, l5, l6⟩

theorem push4 (a : Array Obj) (x y z t : Obj) : ((((a.push x).push y).push z).push t)[a.size]? = some x ∧ ((((a.push x).push y).push z).push t)[a.size + 1]? = some y ∧ ((((a.push x).push y).push z).push t)[a.size + 2]? = some z ∧ ((((a.push x).push y).push z).push t)[a.size + 3]? = some t := by
  refine ⟨?_, ?_, ?_, ?_⟩
  · rw [Array.getElem?_push, if_neg (by simp only [Array.size_push]; omega), Array.getElem?_push, if_neg (by simp only [Array.size_push]; omega), Array.getElem?_push, if_neg (by simp only [Array.size_push]; omega), Array.getElem?_push, if_pos rfl]
  · rw [Array.getElem?_push, if_neg (by simp only [Array.size_push]; omega), Array.getElem?_push, if_neg (by simp only [Array.size_push]; omega), Array.getElem?_push, if_pos (by simp only [Array.size_push])]
  · rw [Array.getElem?_push, if_neg (by simp only [Array.size_push]; omega), Array.getElem?_push, if_pos (by simp only [Array.size_push])]
  · rw [Array.getElem?_push, if_pos (by simp only [Array.size_push])]

set_option maxRecDepth 100000 in
set_option maxHeartbeats 8000000 in
theorem rounds_any (B : Nat) (A : Option Addr) (c n : Nat) (L : List T3) (w : World) (hA : At B w A (t3s L)) (hB : B ≤ w.heap.size) (hn : n ≤ 4096) (hl : L.length ≤ 4096) (hL : okL n L) :
    Calls Try.prog 81 #[.int .i64 n, .slice A L.length c] w (RPPost n L w) := by
  obtain ⟨m, hm⟩ : ∃ m, L.length = m := ⟨_, rfl⟩
  have HM := Go.Lib.hid hm
  have HO := Go.Lib.hid hL
  have hlm : m ≤ 4096 := by omega
  rw [hm]
  clear hm hl hL
  have hmk := make_row n (by omega)
  go_enter Try.func81, Try.ntmps81
  go_wp2
  go_step3
  go_upto_region 1 with fail
  go_cut [5] from 9 to 13 (fun p wx => ∃ gx gm g, p = .pointer (some ⟨g, 0, none⟩) ∧ PMem B w A L n gx gm w.heap.size g (List.replicate n 0) (List.replicate n 0) 0 wx)
  case first =>
    go_region
    all_goals go_wp2
    all_goals go_meet
    all_goals have hp4 := fun x y z t => push4 w.heap x y z t
    all_goals first
      | exact ⟨w.heap.size + 1, w.heap.size + 2, w.heap.size + 3, rfl, PMem.made hA hB (by omega) (by repeat (first | exact Below.refl _ _ | with_reducible refine Below.alloc ?_ (by first | (simp; done) | (simp; omega) | omega) _ | with_reducible refine Below.setCell ?_ (by first | (simp; done) | (simp; omega) | omega) _ | with_reducible refine Below.drew ?_ | with_reducible refine Below.trans ?_ (Below.mono (by assumption) (by first | (simp; done) | (simp; omega) | omega)))) (hp4 _ _ _ _).1 (hp4 _ _ _ _).2.1 (hp4 _ _ _ _).2.2.1 (hp4 _ _ _ _).2.2.2 (by omega)⟩
      | exact ⟨w.heap.size + 1, w.heap.size + 3, w.heap.size + 2, rfl, PMem.made hA hB (by omega) (by repeat (first | exact Below.refl _ _ | with_reducible refine Below.alloc ?_ (by first | (simp; done) | (simp; omega) | omega) _ | with_reducible refine Below.setCell ?_ (by first | (simp; done) | (simp; omega) | omega) _ | with_reducible refine Below.drew ?_ | with_reducible refine Below.trans ?_ (Below.mono (by assumption) (by first | (simp; done) | (simp; omega) | omega)))) (hp4 _ _ _ _).1 (hp4 _ _ _ _).2.1 (hp4 _ _ _ _).2.2.2 (hp4 _ _ _ _).2.2.1 (by omega)⟩
      | exact ⟨w.heap.size + 2, w.heap.size + 1, w.heap.size + 3, rfl, PMem.made hA hB (by omega) (by repeat (first | exact Below.refl _ _ | with_reducible refine Below.alloc ?_ (by first | (simp; done) | (simp; omega) | omega) _ | with_reducible refine Below.setCell ?_ (by first | (simp; done) | (simp; omega) | omega) _ | with_reducible refine Below.drew ?_ | with_reducible refine Below.trans ?_ (Below.mono (by assumption) (by first | (simp; done) | (simp; omega) | omega)))) (hp4 _ _ _ _).1 (hp4 _ _ _ _).2.2.1 (hp4 _ _ _ _).2.1 (hp4 _ _ _ _).2.2.2 (by omega)⟩
      | exact ⟨w.heap.size + 2, w.heap.size + 3, w.heap.size + 1, rfl, PMem.made hA hB (by omega) (by repeat (first | exact Below.refl _ _ | with_reducible refine Below.alloc ?_ (by first | (simp; done) | (simp; omega) | omega) _ | with_reducible refine Below.setCell ?_ (by first | (simp; done) | (simp; omega) | omega) _ | with_reducible refine Below.drew ?_ | with_reducible refine Below.trans ?_ (Below.mono (by assumption) (by first | (simp; done) | (simp; omega) | omega)))) (hp4 _ _ _ _).1 (hp4 _ _ _ _).2.2.1 (hp4 _ _ _ _).2.2.2 (hp4 _ _ _ _).2.1 (by omega)⟩
      | exact ⟨w.heap.size + 3, w.heap.size + 1, w.heap.size + 2, rfl, PMem.made hA hB (by omega) (by repeat (first | exact Below.refl _ _ | with_reducible refine Below.alloc ?_ (by first | (simp; done) | (simp; omega) | omega) _ | with_reducible refine Below.setCell ?_ (by first | (simp; done) | (simp; omega) | omega) _ | with_reducible refine Below.drew ?_ | with_reducible refine Below.trans ?_ (Below.mono (by assumption) (by first | (simp; done) | (simp; omega) | omega)))) (hp4 _ _ _ _).1 (hp4 _ _ _ _).2.2.2 (hp4 _ _ _ _).2.1 (hp4 _ _ _ _).2.2.1 (by omega)⟩
      | exact ⟨w.heap.size + 3, w.heap.size + 2, w.heap.size + 1, rfl, PMem.made hA hB (by omega) (by repeat (first | exact Below.refl _ _ | with_reducible refine Below.alloc ?_ (by first | (simp; done) | (simp; omega) | omega) _ | with_reducible refine Below.setCell ?_ (by first | (simp; done) | (simp; omega) | omega) _ | with_reducible refine Below.drew ?_ | with_reducible refine Below.trans ?_ (Below.mono (by assumption) (by first | (simp; done) | (simp; omega) | omega)))) (hp4 _ _ _ _).1 (hp4 _ _ _ _).2.2.2 (hp4 _ _ _ _).2.2.1 (hp4 _ _ _ _).2.1 (by omega)⟩
  case rest =>
    obtain ⟨gx, gm, g, rfl, hmem⟩ := hcut
    have HS0 := Go.Lib.hid (RSt.start n L)
    have hm0 : PMem B w A L n gx gm w.heap.size g (start n).x (ups (start n).m) ((start n).last + 1) wc := by
      have e : ups (start n).m = List.replicate n 0 := ups_start n
      rw [e]
      exact hmem
    clear hmem
    have hls : (start n).last + 1 = 0 := rfl
    generalize start n = s0 at *
    have HM0 := Go.Lib.hid hm0
    clear hm0 hmk
    go_wp2
    go_step3
    go_wp2
    go_loopw [15] (fun i wq => ∃ (k : Nat) (s : St), k ≤ n ∧ i = .int .i64 k ∧ Hid (RSt n L k s) ∧ Hid (PMem B w A L n gx gm w.heap.size g s.x (ups s.m) (s.last + 1) wq)) (fun i _ => n - (intOf i).toNat)
    case atStart => exact ⟨0, s0, by omega, rfl, HS0, HM0⟩
    case round =>
      clear HS0 HM0 hls
      obtain ⟨k, s, hk, rfl, HS, HM0⟩ := hrel
      by_cases hlt : k < n
      · have hli : (k : Int) < (n : Int) := by omega
        have HR0 := Go.Lib.hid HS.out.mid
        obtain ⟨a0, a1, a2, a3⟩ := HM0.out.cells
        have HM1 := Go.Lib.hid (HM0.out.storeL hB 0)
        clear HM0
        go_wp2
        go_loopw [20] (fun i wq2 => ∃ (j : Nat) (r : St), j ≤ m ∧ i = .int .i64 j ∧ Hid (RMid n L k j s r) ∧ Hid (PMem B w A L n gx gm w.heap.size g r.x (ups r.m) (r.last + 1) wq2)) (fun i _ => m - (intOf i).toNat)
        case atStart => exact ⟨0, ⟨s.x, s.m, -1⟩, by omega, rfl, HR0, HM1⟩
        case round =>
          clear HR0 HM1 a0 a1 a2 a3
          obtain ⟨j, r, hj, rfl, HR, HM1⟩ := hrel
          have hval := HR.out.val (by omega) (by have := HM.out; omega) (by have := HM.out; omega)
          by_cases hjm : j < m
          · have hji : (j : Int) < (m : Int) := by omega
            have hjL : j < L.length := by have := HM.out; omega
            obtain ⟨ga, o, rfl, hg, c0, c1, c2⟩ := HM1.out.mem.arg.t3 hjL
            have hb := HO.out j hjL
            have HNX := Go.Lib.hid (HR.out.next HO.out hjL)
            rw [← bk_at hjL] at c0 c1 c2
            generalize bk L j = b at *
            obtain ⟨bp, bq, br⟩ := b
            obtain ⟨⟨hp0, hp1⟩, ⟨hq0, hq1⟩, hr0, hr1⟩ := hb
            simp only at hp0 hp1 hq0 hq1 hr0 hr1 c0 c1 c2
            obtain ⟨p, rfl⟩ : ∃ p : Nat, bp = (p : Int) := ⟨bp.toNat, by omega⟩
            obtain ⟨q, rfl⟩ : ∃ q : Nat, bq = (q : Int) := ⟨bq.toNat, by omega⟩
            have hp : p < n := by omega
            have hq : q < n := by omega
            have hvp := hval.bd p hp
            have hvq := hval.bd q hq
            have lg := World.block_lt_of_cell? _ _ c0
            have hsq := HM1.out.mem.size
            go_wp2
            generalize hwx : World.alloc _ _ = wx
            have hbk : wx.heap[wr.heap.size]? = some (.cells #[.int .i64 p, .int .i64 q, .int .i64 br] 96 (0, 0)) := by rw [← hwx]; exact alloc_at _ _
            have HM2 := Go.Lib.hid (HM1.out.alloc (Obj.cells #[.int .i64 p, .int .i64 q, .int .i64 br] 96))
            rw [hwx] at HM2
            have hnx1 := Nat.ne_of_lt HM1.out.mem.gxl.2
            have hnm1 := Nat.ne_of_lt HM1.out.mem.gml.2
            have hng1 := Nat.ne_of_lt (blk_lt2 HM1.out.b5)
            have hgne := HM1.out.mem.ne
            have hg1 := HM1.out.n5x
            have hg2 := HM1.out.n5m
            clear HM1 hjL HR hwx c0 c1 c2 lg
            generalize wr.heap.size = bb at *
            obtain ⟨a0, a1, a2, a3⟩ := HM2.out.cells
            obtain ⟨x1, f1⟩ := HM2.out.mem.cellX hval.xl hp
            obtain ⟨x2, f2⟩ := HM2.out.mem.cellX hval.xl hq
            have k0 := blk_cell hbk 0
            have k1 := blk_cell hbk 1
            have k2 := blk_cell hbk 2
            simp at k0 k1 k2
            have lx := HM2.out.mem.gxl.2
            have lb := blk_lt2 hbk
            have l5 := blk_lt2 HM2.out.b5
            have hsh := step_hot (i := j) (p := p) (q := q) (r := br) (s := r)
            have hsc := step_cold (i := j) (p := p) (q := q) (r := br) (s := r)
            obtain ⟨xp, hxp⟩ : ∃ xp, r.x.getD p 0 = xp := ⟨_, rfl⟩
            obtain ⟨xq, hxq⟩ : ∃ xq, r.x.getD q 0 = xq := ⟨_, rfl⟩
            rw [hxp] at hsh hsc hvp x1
            rw [hxq] at hsh hsc hvq x2
            have HXQ := Go.Lib.hid hxq
            have HSH := Go.Lib.hid hsh
            have HSC := Go.Lib.hid hsc
            clear hxp hxq hsh hsc
            refine region_ext mixed (by kernel_rfl) ?_
            repeat (go_big_quiet_step (fail))
            refine wpQuiet_nil ?_
            intro w3 hb3
            have HM3 := Go.Lib.hid (HM2.out.on hb3)
            have hbk3 := (hb3.block _ lb).trans hbk
            clear x1 f1 x2 f2 k0 k1 k2 lx lb l5 a0 a1 a2 a3 HM2 hbk hb3
            obtain ⟨a0, a1, a2, a3⟩ := HM3.out.cells
            obtain ⟨x2, f2⟩ := HM3.out.mem.cellX hval.xl hq
            rw [HXQ.out] at x2
            have k1 := blk_cell hbk3 1
            simp at k1
            have lx := HM3.out.mem.gxl.2
            have lb := blk_lt2 hbk3
            have l5 := blk_lt2 HM3.out.b5
            by_cases hot : xq < xp + br
            · rw [HSH.out hot] at HNX
              go_wp2
              obtain ⟨x3, f3⟩ := HM3.out.mem.cellM (by rw [ups_len]; exact hval.ml) hq
              obtain ⟨mq, hmq⟩ : ∃ mq, (ups r.m).getD q 0 = mq := ⟨_, rfl⟩
              rw [hmq] at x3
              have lm := HM3.out.mem.gml.2
              have hM5 := ((HM3.out.on (Below.drew (Below.refl _ _))).storeX hB q (xp + br)).storeM hB q ((j : Int) + 1) |>.storeL hB ((q : Int) + 1)
              rw [ups_set] at hM5
              have HM5 := Go.Lib.hid hM5
              have hne4 : ¬ gm = gx := fun e => hgne e.symm
              have hne5 : ¬ gx = gm := hgne
              have hg3 : ¬ gx = g := fun e => hg1 e.symm
              have hg4 : ¬ gm = g := fun e => hg2 e.symm
              clear HM3 hbk3 hot hmq hM5
              go_region
              go_wp2
              go_roundw
              case rel => exact ⟨j + 1, _, by omega, by go_num, HNX, HM5⟩
              case measure => simp [intOf]; omega
            · rw [HSC.out hot] at HNX
              have hcold : ¬ xq < xp + br := hot
              go_wp2
              exact ⟨⟨j + 1, r, by omega, by go_num, HNX, HM3⟩, by simp [intOf]; omega⟩
          · have hjm' : ¬ ((j : Int) < (m : Int)) := by omega
            have hjL : j = L.length := by have := HM.out; omega
            have HR2 : Hid (RMid n L k L.length s r) := Go.Lib.hid (hjL ▸ HR.out)
            clear HR
            have hlast := hval.last
            obtain ⟨a0, a1, a2, a3⟩ := HM1.out.cells
            have b0 := blk_cell HM1.out.b4
            have c0 := b0 0
            have c1 := b0 1
            have c2 := b0 2
            simp at c0 c1 c2
            have f0 := blk_frozen HM1.out.b4 0
            have f1 := blk_frozen HM1.out.b4 1
            have f2 := blk_frozen HM1.out.b4 2
            clear b0
            by_cases hst : r.last = -1
            · have hst2 : r.last + 1 = 0 := by omega
              have hf := HR2.out.stop HS.out hlt hst
              subst hf
              go_wp2
              obtain ⟨r1, r2, r3⟩ := HM1.out.result (.slice (some ⟨gx, 0, none⟩) n n) (.slice (some ⟨gm, 0, none⟩) n n) (.int .i64 0)
              exact bodyPost_ret (by simp [results, Try.results81, go_sem, *]) rfl ⟨gx, gm, 0, rfl, hst2.symm, HM1.out.mem.ne, r1, r2, r3⟩
            · have hst2 : ¬ r.last + 1 = 0 := by omega
              have HS2 := Go.Lib.hid (HR2.out.more HS.out hlt hst)
              go_wp2
              exact ⟨⟨k + 1, r, by omega, by go_num, HS2, HM1⟩, by simp [intOf]; omega⟩
      · have hlt' : ¬ ((k : Int) < (n : Int)) := by omega
        have hkn : k = n := by omega
        subst hkn
        have hf := HS.out.end_
        subst hf
        obtain ⟨a0, a1, a2, a3⟩ := HM0.out.cells
        have b0 := blk_cell HM0.out.b4
        have c0 := b0 0
        have c1 := b0 1
        have c2 := b0 2
        simp at c0 c1 c2
        have f0 := blk_frozen HM0.out.b4 0
        have f1 := blk_frozen HM0.out.b4 1
        have f2 := blk_frozen HM0.out.b4 2
        clear b0
        go_wp2
        obtain ⟨r1, r2, r3⟩ := HM0.out.result (.slice (some ⟨gx, 0, none⟩) k k) (.slice (some ⟨gm, 0, none⟩) k k) (.int .i64 ((fin k L).last + 1))
        exact bodyPost_ret (by simp [results, Try.results81, go_sem, *]) rfl ⟨gx, gm, _, rfl, rfl, HM0.out.mem.ne, r1, r2, r3⟩
end Go.Proofs.Ytjippgflempdmaa

/- Layer 9: Solve, both sides. -/
namespace Go.Proofs.Ytjippgflempdmaa
set_option linter.unusedVariables false
set_option linter.unusedSimpArgs false
set_option maxRecDepth 100000
open Go.RowKit
attribute [local go_sem] max_fold min_fold

theorem IntsE.of {l : List Int} {err : Int} {W W1 w' : World} {A : Option Addr} {n c : Nat} (hl : l.length = n) (h : w'.ownsRow W1.heap.size 3 1 (.slice A n c) n (ints l)) (hs : W.heap.size ≤ W1.heap.size) (hb : Below W.heap.size W w') : IntsE l err W (.returned (.tuple #[.slice A n c, .int .i64 err])) w' := by
  subst hl
  exact IntsE.mk h hs hb
theorem solve_vals {m : Nat} {L : List T3} (h0 : chkN m L = 0) : ((fin m L).last = -1 → solveE m L = 0 ∧ solveR m L = (fin m L).x) ∧ ((fin m L).last ≠ -1 → solveE m L = 90 ∧ solveR m L = []) := by
  refine ⟨fun h => ?_, fun h => ?_⟩
  · have e : solveE m L = 0 := by
      unfold solveE
      rw [if_pos h0, if_pos (by simpa using h)]
    refine ⟨e, ?_⟩
    unfold solveR
    rw [if_pos e]
    rfl
  · have e : solveE m L = 90 := by
      unfold solveE
      rw [if_pos h0, if_neg (by simpa using h)]
    refine ⟨e, ?_⟩
    unfold solveR
    rw [if_neg (by omega)]
theorem fin_last {m : Nat} {L : List T3} (hL : okL m L) : (fin m L).last = -1 ∨ 0 ≤ (fin m L).last ∧ (fin m L).last < m := by
  obtain ⟨K, t, hI, _, _⟩ := fin_inv hL
  rcases hI.last with ⟨h, _⟩ | ⟨v, hv, h, _⟩
  · exact .inl h
  · exact .inr ⟨by omega, by omega⟩

set_option maxHeartbeats 2000000 in
theorem Solve_any (B : Nat) (A : Option Addr) (c : Nat) (n : Int) (L : List T3) (w : World) (hA : At B w A (t3s L)) (hB : B ≤ w.heap.size) (hl : L.length ≤ 9000000000000000000) :
    Calls Try.prog 63 #[.int .i64 n, .slice A L.length c] w (IntsE (solveR n L) (solveE n L) w) := by
  by_cases h0 : chkN n L = 0
  · obtain ⟨m, rfl, hm, hlm, hL⟩ := chkN_ok h0
    have HC := Go.Lib.hid (fun w h1 h2 => h0 ▸ checkN_any B A c (m : Int) L w h1 h2 hl)
    have HR := Go.Lib.hid (fun w h1 h2 => rounds_any B A c m L w h1 h2 hm hlm hL)
    have hla := fin_last hL
    have hxl := (fin_len m L).1
    obtain ⟨hv1, hv2⟩ := solve_vals h0
    by_cases hlast : (fin m L).last = -1
    · obtain ⟨e1, e2⟩ := hv1 hlast
      rw [e1, e2]
      clear hv1 hv2 e1 e2 h0
      go_enter Try.func63, Try.ntmps63
      go_wp2_with fail
      refine (HC.out _ hA hB).mono ?_
      rintro e w1 ⟨rfl, hb1⟩
      have hA1 := hA.below (hb1.mono hB)
      have hs1 := hb1.size
      go_wp2_with fail
      refine (HR.out _ hA1 (by omega)).mono ?_
      rintro e w2 ⟨gx, gm, k, rfl, hk, _, hox, _, hb2⟩
      have hk0 : k = 0 := by omega
      subst hk0
      have hs2 := hb2.size
      go_wp2
      go_ret2
      exact IntsE.of hxl (hox.alloc _) hs1 ((hb1.trans (hb2.mono hs1)).alloc (by omega) _)
    · obtain ⟨e1, e2⟩ := hv2 hlast
      rw [e1, e2]
      clear hv1 hv2 e1 e2 h0
      go_enter Try.func63, Try.ntmps63
      go_wp2_with fail
      refine (HC.out _ hA hB).mono ?_
      rintro e w1 ⟨rfl, hb1⟩
      have hA1 := hA.below (hb1.mono hB)
      have hs1 := hb1.size
      go_wp2_with fail
      refine (HR.out _ hA1 (by omega)).mono ?_
      rintro e w2 ⟨gx, gm, k, rfl, hk, _, hox, _, hb2⟩
      have hk0 : 0 < k := by omega
      have hs2 := hb2.size
      clear hk
      go_wp2
      go_ret2
      exact IntsE.none ((hb1.trans (hb2.mono hs1)).alloc (by omega) _)
  · have hne : (chkN n L != 0) = true := by simpa using h0
    have e1 : solveE n L = chkN n L := by simp [solveE, h0]
    rw [e1, solveR_nil (by rw [e1]; exact h0)]
    go_enter Try.func63, Try.ntmps63
    go_wp2_with fail
    refine (checkN_any B A c n L _ hA hB hl).mono ?_
    rintro e w1 ⟨rfl, hb1⟩
    go_wp2
    go_ret2
    exact IntsE.none hb1

set_option maxHeartbeats 2000000 in
theorem rSolve_any (B : Nat) (A : Option Addr) (c : Nat) (n : Int) (L : List T3) (w : World) (hA : At B w A (t3s L)) (hB : B ≤ w.heap.size) (hl : L.length ≤ 9000000000000000000) :
    Calls Try.prog 70 #[.int .i64 n, .slice A L.length c] w (IntsE (solveR n L) (solveE n L) w) := by
  by_cases h0 : chkN n L = 0
  · obtain ⟨m, rfl, hm, hlm, hL⟩ := chkN_ok h0
    have HC := Go.Lib.hid (fun w h1 h2 => h0 ▸ rcheckN_any B A c (m : Int) L w h1 h2 hl)
    have HR := Go.Lib.hid (fun w h1 h2 => rrounds_any B A c m L w h1 h2 hm hlm hL)
    have hla := fin_last hL
    have hxl := (fin_len m L).1
    obtain ⟨hv1, hv2⟩ := solve_vals h0
    by_cases hlast : (fin m L).last = -1
    · obtain ⟨e1, e2⟩ := hv1 hlast
      rw [e1, e2]
      clear hv1 hv2 e1 e2 h0
      have hlz : ¬ 0 ≤ (fin m L).last := by omega
      go_enter Try.func70, Try.ntmps70
      go_wp2_with fail
      refine (HC.out _ hA hB).mono ?_
      rintro e w1 ⟨rfl, hb1⟩
      have hA1 := hA.below (hb1.mono hB)
      have hs1 := hb1.size
      go_wp2_with fail
      refine (HR.out _ hA1 (by omega)).mono ?_
      rintro e w2 ⟨gx, gm, rfl, _, hox, _, hb2⟩
      have hs2 := hb2.size
      go_wp2
      go_ret2
      exact IntsE.of hxl hox hs1 (hb1.trans (hb2.mono hs1))
    · obtain ⟨e1, e2⟩ := hv2 hlast
      rw [e1, e2]
      clear hv1 hv2 e1 e2 h0
      have hlz : 0 ≤ (fin m L).last := by omega
      go_enter Try.func70, Try.ntmps70
      go_wp2_with fail
      refine (HC.out _ hA hB).mono ?_
      rintro e w1 ⟨rfl, hb1⟩
      have hA1 := hA.below (hb1.mono hB)
      have hs1 := hb1.size
      go_wp2_with fail
      refine (HR.out _ hA1 (by omega)).mono ?_
      rintro e w2 ⟨gx, gm, rfl, _, hox, _, hb2⟩
      have hs2 := hb2.size
      go_wp2
      go_ret2
      exact IntsE.none (hb1.trans (hb2.mono hs1))
  · have hne : (chkN n L != 0) = true := by simpa using h0
    have e1 : solveE n L = chkN n L := by simp [solveE, h0]
    rw [e1, solveR_nil (by rw [e1]; exact h0)]
    go_enter Try.func70, Try.ntmps70
    go_wp2_with fail
    refine (rcheckN_any B A c n L _ hA hB hl).mono ?_
    rintro e w1 ⟨rfl, hb1⟩
    go_wp2
    go_ret2
    exact IntsE.none hb1
end Go.Proofs.Ytjippgflempdmaa
