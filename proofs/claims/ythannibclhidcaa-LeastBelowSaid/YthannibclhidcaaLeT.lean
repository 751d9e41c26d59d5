/- Layer 9: Tight, both sides. -/
import Derived.Test.YthannibclhidcaaLeS
namespace Go.Proofs.Ythannibclhidcaa
set_option linter.unusedVariables false
set_option linter.unusedSimpArgs false
open Go.RowKit
attribute [local go_sem] max_fold min_fold

theorem At.all {B : Nat} {w : World} {A : Option Addr} {l : List Int} (h : At B w A (ints l)) (hl : 0 < l.length) : ∃ g o, A = some ⟨g, o, none⟩ ∧ g < B ∧ ∀ k, k < l.length → w.cell? ⟨g, o + k, none⟩ = some (.int .i64 (l.getD k 0)) := by
  obtain ⟨g, o, hA, hg, hc⟩ := h (by rw [ints_len]; omega)
  refine ⟨g, o, hA, hg, fun k hk => ?_⟩
  rw [hc k _ (ints_at l k hk)]
  simp [List.getD, hk]
/-- Numbers at one place, a row of the call's own growing. -/
structure TMem (B : Nat) (w w1 : World) (A Ax : Option Addr) (L : List T3) (x l : List Int) (v : Value) (wr : World) : Prop where
  below : Below w.heap.size w wr
  arg : At B wr A (t3s L)
  num : At w1.heap.size wr Ax (ints x)
  own : wr.ownsRow w1.heap.size 3 1 v l.length (ints l)
  size : w1.heap.size ≤ wr.heap.size
  big : w.heap.size ≤ w1.heap.size
theorem TMem.on {B : Nat} {w w1 wr w' : World} {A Ax : Option Addr} {L : List T3} {x l : List Int} {v : Value} (h : TMem B w w1 A Ax L x l v wr) (hb : Below wr.heap.size wr w') : TMem B w w1 A Ax L x l v w' :=
  ⟨h.below.trans (hb.mono (Nat.le_trans h.big h.size)), h.arg.ext hb, h.num.ext hb, own_below' h.own hb, Nat.le_trans h.size hb.size, h.big⟩
theorem TMem.alloc {B : Nat} {w w1 wr : World} {A Ax : Option Addr} {L : List T3} {x l : List Int} {v : Value} (h : TMem B w w1 A Ax L x l v wr) (o : Obj) : TMem B w w1 A Ax L x l v (wr.alloc o) := h.on ((Below.refl _ _).alloc (Nat.le_refl _) o)
theorem TMem.grown {B : Nat} {w w1 wr w' : World} {A Ax : Option Addr} {L : List T3} {x l l' : List Int} {v v' : Value} (h : TMem B w w1 A Ax L x l v wr) (hB : B ≤ w.heap.size) (hg : wr.grownBy w' v.ownBlock) (ho : w'.ownsRow w1.heap.size 3 1 v' l'.length (ints l')) : TMem B w w1 A Ax L x l' v' w' := by
  have hb : Below w1.heap.size wr w' := (Below.refl _ _).grown hg h.size (own_ge h.own)
  have hs : wr.heap.size ≤ w'.heap.size := hg.size
  exact ⟨h.below.trans (hb.mono h.big), h.arg.below (hb.mono (Nat.le_trans hB h.big)), h.num.below hb, ho, Nat.le_trans h.size hs, h.big⟩
theorem TMem.start {B : Nat} {w w1 : World} {A Ax : Option Addr} {L : List T3} {x : List Int} (hb : Below w.heap.size w w1) (hA : At B w A (t3s L)) (hB : B ≤ w.heap.size) (hx : At w1.heap.size w1 Ax (ints x)) : TMem B w w1 A Ax L x [] (.slice none 0 0) w1 :=
  ⟨hb, hA.below (hb.mono hB), hx, World.ownsRow_nil _ _ _ _, Nat.le_refl _, hb.size⟩

theorem tight_hot {x : List Int} {L : List T3} {j : Nat} {p q : Nat} {r : Int} (hb : bk L j = ⟨(p : Int), (q : Int), r⟩) (h : x.getD q 0 - x.getD p 0 = r) : tightL x L (j + 1) = tightL x L j ++ [(j : Int)] := by
  show (if tightB x (bk L j) then tightL x L j ++ [(j : Int)] else tightL x L j) = _
  rw [hb, if_pos (by unfold tightB gi; simp only [Int.toNat_natCast, beq_iff_eq]; exact h)]
theorem tight_cold {x : List Int} {L : List T3} {j : Nat} {p q : Nat} {r : Int} (hb : bk L j = ⟨(p : Int), (q : Int), r⟩) (h : ¬ x.getD q 0 - x.getD p 0 = r) : tightL x L (j + 1) = tightL x L j := by
  show (if tightB x (bk L j) then tightL x L j ++ [(j : Int)] else tightL x L j) = _
  rw [hb, if_neg (by unfold tightB gi; simp only [Int.toNat_natCast, beq_iff_eq]; exact h)]
theorem solve_vals_bd {n : Int} {L : List T3} (h : solveE n L = 0) : ∀ v, 0 ≤ (solveR n L).getD v 0 ∧ (solveR n L).getD v 0 ≤ 18000000000000 := by
  obtain ⟨m, rfl, h1, h2, hL, h3⟩ := solve_below h
  intro v
  by_cases hv : v < m
  · have e : solveR m L = (fin m L).x := by
      unfold solveR
      rw [if_pos h]
      rfl
    rw [e]
    have := fin_bd hL hv
    have h5 : m * L.length + L.length ≤ 4096 * 4096 + 4096 := Nat.add_le_add (Nat.mul_le_mul h1 h2) h2
    have h6 : ((m * L.length + L.length : Nat) : Int) * 1048576 ≤ ((4096 * 4096 + 4096 : Nat) : Int) * 1048576 := Int.mul_le_mul_of_nonneg_right (by omega) (by omega)
    omega
  · have : (solveR m L).getD v 0 = 0 := by
      have := h3.len
      simp [List.getD, show ¬ v < (solveR m L).length by omega]
    rw [this]
    omega

set_option maxRecDepth 100000 in
set_option maxHeartbeats 8000000 in
theorem Tight_any (B : Nat) (A : Option Addr) (c : Nat) (n : Int) (L : List T3) (w : World) (hA : At B w A (t3s L)) (hB : B ≤ w.heap.size) (hl : L.length ≤ 9000000000000000000) :
    Calls Try.prog 36 #[.int .i64 n, .slice A L.length c] w (IntsE (tightR n L) (solveE n L) w) := by
  obtain ⟨E, hE⟩ : ∃ E, solveE n L = E := ⟨_, rfl⟩
  obtain ⟨x, hx⟩ : ∃ x, solveR n L = x := ⟨_, rfl⟩
  have HS := Go.Lib.hid (fun w h1 h2 => hE ▸ hx ▸ Solve_any B A c n L w h1 h2 hl)
  have hxm : x.length ≤ 4096 := hx ▸ solveR_lt n L
  by_cases h0 : E = 0
  · subst h0
    obtain ⟨k, rfl, hk, hlm, hL, hbl⟩ := solve_below hE
    have hbd := solve_vals_bd hE
    rw [hx] at hbl hbd
    have hres : tightR k L = tightL x L L.length := by unfold tightR; rw [if_pos hE, hx]
    rw [hE, hres]
    have HB := Go.Lib.hid hbd
    have HO := Go.Lib.hid hL
    have hxl := hbl.len
    obtain ⟨m, hm⟩ : ∃ m, L.length = m := ⟨_, rfl⟩
    have HM := Go.Lib.hid hm
    have hm2 : m ≤ 4096 := by omega
    rw [hm]
    rw [hm] at HS
    clear hE hx hL hbl hbd hres hl hlm hm
    go_enter Try.func36, Try.ntmps36
    go_wp2_with fail
    refine (HS.out _ hA hB).mono ?_
    rintro e w1 ⟨Ax, cx, rfl, hown1, hb1⟩
    have hs1 := hb1.size
    have hst := TMem.start hb1 hA hB (At.of_own hown1)
    clear hA hown1 hb1
    go_wp2
    go_loopw [8, 22] (fun o_ i wr => ∃ (j : Nat) (A' : Option Addr) (c' : Nat), j ≤ m ∧ i = .int .i64 j ∧ o_ = .slice A' (tightL x L j).length c' ∧ TMem B w w1 A Ax L x (tightL x L j) (.slice A' (tightL x L j).length c') wr) (fun _ i _ => m - (intOf i).toNat)
    case atStart => exact ⟨0, none, 0, by omega, rfl, rfl, hst⟩
    case round =>
      clear hst
      obtain ⟨j, A', c', hj, rfl, rfl, hT⟩ := hrel
      have hTl := tightL_len x L j
      by_cases hjm : j < m
      · have hji : (j : Int) < (m : Int) := by omega
        have hjL : j < L.length := by have := HM.out; omega
        have hth := @tight_hot x L j
        have htc := @tight_cold x L j
        obtain ⟨g, o, rfl, hg, c0, c1, c2⟩ := hT.arg.t3 hjL
        have hb := HO.out j hjL
        rw [← bk_at hjL] at c0 c1 c2
        generalize bk L j = b at *
        obtain ⟨bp, bq, br⟩ := b
        obtain ⟨⟨hp0, hp1⟩, ⟨hq0, hq1⟩, hr0, hr1⟩ := hb
        simp only at hp0 hp1 hq0 hq1 hr0 hr1 c0 c1 c2
        obtain ⟨p, rfl⟩ : ∃ p : Nat, bp = (p : Int) := ⟨bp.toNat, by omega⟩
        obtain ⟨q, rfl⟩ : ∃ q : Nat, bq = (q : Int) := ⟨bq.toNat, by omega⟩
        have hp : p < k := by omega
        have hq : q < k := by omega
        have hvp := HB.out p
        have hvq := HB.out q
        have lg := World.block_lt_of_cell? _ _ c0
        have HTH := Go.Lib.hid (@hth p q br rfl)
        have HTC := Go.Lib.hid (@htc p q br rfl)
        clear hth htc
        obtain ⟨T, hT2⟩ : ∃ T, tightL x L j = T := ⟨_, rfl⟩
        rw [hT2] at hT hTl HTH HTC
        rw [hT2]
        go_wp2
        generalize hwx : World.alloc _ _ = wx
        have hbk : wx.heap[wr.heap.size]? = some (.cells #[.int .i64 p, .int .i64 q, .int .i64 br] 54 (0, 0)) := by rw [← hwx]; exact alloc_at _ _
        have HT2 := Go.Lib.hid (hT.alloc (Obj.cells #[.int .i64 p, .int .i64 q, .int .i64 br] 54))
        rw [hwx] at HT2
        clear hT hwx c0 c1 c2 lg
        generalize wr.heap.size = bb at *
        obtain ⟨gx, ox, rfl, hgx, hcx⟩ := HT2.out.num.all (by omega)
        have x1 := hcx p (by omega)
        have x2 := hcx q (by omega)
        have k0 := blk_cell hbk 0
        have k1 := blk_cell hbk 1
        have k2 := blk_cell hbk 2
        simp at k0 k1 k2
        have lx : gx < wx.heap.size := World.block_lt_of_cell? _ _ x1
        have lb := blk_lt2 hbk
        obtain ⟨xp, hxp⟩ : ∃ xp, x.getD p 0 = xp := ⟨_, rfl⟩
        obtain ⟨xq, hxq⟩ : ∃ xq, x.getD q 0 = xq := ⟨_, rfl⟩
        rw [hxp] at hvp x1 HTH HTC
        rw [hxq] at hvq x2 HTH HTC
        clear hxp hxq hcx hbk
        by_cases hot : xq - xp = br
        · have hot2 : (xq - xp == br) = true := by simpa using hot
          have hnew := HTH.out hot
          refine region_ext mixed (by kernel_rfl) ?_
          repeat (go_big_quiet_step (fail))
          refine wpQuiet_nil ?_
          intro w3 hb3
          have HT3 := Go.Lib.hid (HT2.out.on hb3)
          clear x1 x2 k0 k1 k2 lx lb HT2 hb3 HTC
          have hsz := HT3.out.size
          go_wp2_with (first | (at_builtin; refine append_int rfl (.tmp 41) (.tmp 43) rfl w1.heap.size _ T (j : Int) w3.heap.size rfl rfl (HT3.out.own.alloc _) (by simp [go_sem]) ?_ ?_ ?_))
          · omega
          · simp; omega
          intro v2 w4 hown4 hg4 _
          have HT4 := (HT3.out.alloc _).grown (l' := T ++ [(j : Int)]) hB hg4 (by rw [List.length_append]; exact hown4)
          obtain ⟨A2, c2, rfl⟩ := own_shape hown4
          clear hg4 hown4 HT3
          rw [← hnew] at HT4
          have HT5 := Go.Lib.hid HT4
          clear HT4
          go_wp2
          go_roundw
          case rel => exact ⟨j + 1, A2, c2, by omega, by go_num, by rw [hnew, List.length_append]; rfl, by have := HT5.out; rw [hnew] at this ⊢; rw [List.length_append]; exact this⟩
          case measure => simp [intOf]; omega
        · have hcold : (xq - xp == br) = false := by simpa using hot
          have hnew := HTC.out hot
          refine region_ext mixed (by kernel_rfl) ?_
          repeat (go_big_quiet_step (fail))
          refine wpQuiet_nil ?_
          intro w3 hb3
          have HT3 := HT2.out.on hb3
          rw [← hnew] at HT3
          clear x1 x2 k0 k1 k2 lx lb HT2 hb3 HTC
          go_wp2
          exact ⟨⟨j + 1, A', c', by omega, by go_num, by rw [hnew], HT3⟩, by simp [intOf]; omega⟩
      · have hjm' : ¬ ((j : Int) < (m : Int)) := by omega
        have hjL : j = m := by omega
        subst hjL
        go_wp2
        go_ret2
        exact IntsE.mk hT.own hs1 hT.below
  · have hne : (E != 0) = true := by simpa using h0
    have hxe : x = [] := by rw [← hx]; exact solveR_nil (by omega)
    have hres : tightR n L = [] := by unfold tightR; rw [if_neg (by omega)]
    rw [hE, hres]
    clear hE hx hres hl hxm
    go_enter Try.func36, Try.ntmps36
    go_wp2_with fail
    refine (HS.out _ hA hB).mono ?_
    rintro e w1 ⟨Ax, cx, rfl, hown1, hb1⟩
    go_wp2
    go_ret2
    exact IntsE.none hb1
set_option maxRecDepth 100000 in
set_option maxHeartbeats 8000000 in
theorem rTight_any (B : Nat) (A : Option Addr) (c : Nat) (n : Int) (L : List T3) (w : World) (hA : At B w A (t3s L)) (hB : B ≤ w.heap.size) (hl : L.length ≤ 9000000000000000000) :
    Calls Try.prog 37 #[.int .i64 n, .slice A L.length c] w (IntsE (tightR n L) (solveE n L) w) := by
  obtain ⟨E, hE⟩ : ∃ E, solveE n L = E := ⟨_, rfl⟩
  obtain ⟨x, hx⟩ : ∃ x, solveR n L = x := ⟨_, rfl⟩
  have HS := Go.Lib.hid (fun w h1 h2 => hE ▸ hx ▸ rSolve_any B A c n L w h1 h2 hl)
  have hxm : x.length ≤ 4096 := hx ▸ solveR_lt n L
  by_cases h0 : E = 0
  · subst h0
    obtain ⟨k, rfl, hk, hlm, hL, hbl⟩ := solve_below hE
    have hbd := solve_vals_bd hE
    rw [hx] at hbl hbd
    have hres : tightR k L = tightL x L L.length := by unfold tightR; rw [if_pos hE, hx]
    rw [hE, hres]
    have HB := Go.Lib.hid hbd
    have HO := Go.Lib.hid hL
    have hxl := hbl.len
    obtain ⟨m, hm⟩ : ∃ m, L.length = m := ⟨_, rfl⟩
    have HM := Go.Lib.hid hm
    have hm2 : m ≤ 4096 := by omega
    rw [hm]
    rw [hm] at HS
    clear hE hx hL hbl hbd hres hl hlm hm
    go_enter Try.func37, Try.ntmps37
    go_wp2_with fail
    refine (HS.out _ hA hB).mono ?_
    rintro e w1 ⟨Ax, cx, rfl, hown1, hb1⟩
    have hs1 := hb1.size
    have hst := TMem.start hb1 hA hB (At.of_own hown1)
    clear hA hown1 hb1
    go_wp2
    go_loopw [8, 9] (fun o_ i wr => ∃ (j : Nat) (A' : Option Addr) (c' : Nat), j ≤ m ∧ i = .int .i64 j ∧ o_ = .slice A' (tightL x L j).length c' ∧ TMem B w w1 A Ax L x (tightL x L j) (.slice A' (tightL x L j).length c') wr) (fun _ i _ => m - (intOf i).toNat)
    case atStart => exact ⟨0, none, 0, by omega, rfl, rfl, hst⟩
    case round =>
      clear hst
      obtain ⟨j, A', c', hj, rfl, rfl, hT⟩ := hrel
      have hTl := tightL_len x L j
      by_cases hjm : j < m
      · have hji : (j : Int) < (m : Int) := by omega
        have hjL : j < L.length := by have := HM.out; omega
        have hth := @tight_hot x L j
        have htc := @tight_cold x L j
        obtain ⟨g, o, rfl, hg, c0, c1, c2⟩ := hT.arg.t3 hjL
        have hb := HO.out j hjL
        rw [← bk_at hjL] at c0 c1 c2
        generalize bk L j = b at *
        obtain ⟨bp, bq, br⟩ := b
        obtain ⟨⟨hp0, hp1⟩, ⟨hq0, hq1⟩, hr0, hr1⟩ := hb
        simp only at hp0 hp1 hq0 hq1 hr0 hr1 c0 c1 c2
        obtain ⟨p, rfl⟩ : ∃ p : Nat, bp = (p : Int) := ⟨bp.toNat, by omega⟩
        obtain ⟨q, rfl⟩ : ∃ q : Nat, bq = (q : Int) := ⟨bq.toNat, by omega⟩
        have hp : p < k := by omega
        have hq : q < k := by omega
        have hvp := HB.out p
        have hvq := HB.out q
        have lg := World.block_lt_of_cell? _ _ c0
        have HTH := Go.Lib.hid (@hth p q br rfl)
        have HTC := Go.Lib.hid (@htc p q br rfl)
        clear hth htc
        obtain ⟨T, hT2⟩ : ∃ T, tightL x L j = T := ⟨_, rfl⟩
        rw [hT2] at hT hTl HTH HTC
        rw [hT2]
        have HT2 := Go.Lib.hid hT
        clear hT
        obtain ⟨gx, ox, rfl, hgx, hcx⟩ := HT2.out.num.all (by omega)
        have x1 := hcx p (by omega)
        have x2 := hcx q (by omega)
        have lx : gx < wr.heap.size := World.block_lt_of_cell? _ _ x1
        obtain ⟨xp, hxp⟩ : ∃ xp, x.getD p 0 = xp := ⟨_, rfl⟩
        obtain ⟨xq, hxq⟩ : ∃ xq, x.getD q 0 = xq := ⟨_, rfl⟩
        rw [hxp] at hvp x1 HTH HTC
        rw [hxq] at hvq x2 HTH HTC
        clear hxp hxq hcx
        by_cases hot : xq = xp + br
        · have hot2 : (xq == xp + br) = true := by simpa using hot
          have hnew := HTH.out (by omega)
          go_wp2
          refine region_ext mixed (by kernel_rfl) ?_
          repeat (go_big_quiet_step (fail))
          refine wpQuiet_nil ?_
          intro w3 hb3
          have HT3 := Go.Lib.hid (HT2.out.on hb3)
          clear x1 x2 c0 c1 c2 lx lg HT2 hb3 HTC
          have hsz := HT3.out.size
          go_wp2_with (first | (at_builtin; refine append_int rfl (.tmp 48) (.tmp 50) rfl w1.heap.size _ T (j : Int) w3.heap.size rfl rfl (HT3.out.own.alloc _) (by simp [go_sem]) ?_ ?_ ?_))
          · omega
          · simp; omega
          intro v2 w4 hown4 hg4 _
          have HT4 := (HT3.out.alloc _).grown (l' := T ++ [(j : Int)]) hB hg4 (by rw [List.length_append]; exact hown4)
          obtain ⟨A2, c2, rfl⟩ := own_shape hown4
          clear hg4 hown4 HT3
          rw [← hnew] at HT4
          have HT5 := Go.Lib.hid HT4
          clear HT4
          go_wp2
          go_roundw
          case rel => exact ⟨j + 1, A2, c2, by omega, by go_num, by rw [hnew, List.length_append]; rfl, by have := HT5.out; rw [hnew] at this ⊢; rw [List.length_append]; exact this⟩
          case measure => simp [intOf]; omega
        · have hcold : (xq == xp + br) = false := by simpa using hot
          have hnew := HTC.out (by omega)
          go_wp2
          refine region_ext mixed (by kernel_rfl) ?_
          repeat (go_big_quiet_step (fail))
          refine wpQuiet_nil ?_
          intro w3 hb3
          have HT3 := HT2.out.on hb3
          rw [← hnew] at HT3
          clear x1 x2 c0 c1 c2 lx lg HT2 hb3 HTC
          go_wp2
          exact ⟨⟨j + 1, A', c', by omega, by go_num, by rw [hnew], HT3⟩, by simp [intOf]; omega⟩
      · have hjm' : ¬ ((j : Int) < (m : Int)) := by omega
        have hjL : j = m := by omega
        subst hjL
        go_wp2
        go_ret2
        exact IntsE.mk hT.own hs1 hT.below
  · have hne : (E != 0) = true := by simpa using h0
    have hxe : x = [] := by rw [← hx]; exact solveR_nil (by omega)
    have hres : tightR n L = [] := by unfold tightR; rw [if_neg (by omega)]
    rw [hE, hres]
    clear hE hx hres hl hxm
    go_enter Try.func37, Try.ntmps37
    go_wp2_with fail
    refine (HS.out _ hA hB).mono ?_
    rintro e w1 ⟨Ax, cx, rfl, hown1, hb1⟩
    go_wp2
    go_ret2
    exact IntsE.none hb1
end Go.Proofs.Ythannibclhidcaa
