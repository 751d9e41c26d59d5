/- Layer 9: Keeps, both sides. (Printed by least/gen_k.py.) -/
import Derived.Test.YthannibclhidcaaLeT
namespace Go.Proofs.Ythannibclhidcaa
set_option linter.unusedVariables false
set_option linter.unusedSimpArgs false
open Go.RowKit
attribute [local go_sem] max_fold min_fold

def KeepsP (X : List Int) (L : List T3) (w : World) (e : Ending) (w' : World) : Prop := e = .returned (.tuple #[.int .i64 (keepsK X L), .int .i64 (keepsE X L)]) ∧ Below w.heap.size w w'
theorem keeps_big {X : List Int} {L : List T3} (h : 4096 < X.length) : keepsE X L = 4 ∧ keepsK X L = 0 := by
  have e : keepsE X L = 4 := by unfold keepsE; rw [if_pos h]
  exact ⟨e, by unfold keepsK; rw [if_neg (by omega)]⟩
theorem keeps_num {X : List Int} {L : List T3} (h : ¬ 4096 < X.length) {k : Nat} (hk : k < X.length) (hn : numB X[k] = false) : keepsE X L = 2 ∧ keepsK X L = 0 := by
  have e : keepsE X L = 2 := by
    unfold keepsE
    rw [if_neg h, if_neg]
    intro ha
    have := List.all_eq_true.1 ha X[k] (List.getElem_mem hk)
    rw [hn] at this
    cases this
  exact ⟨e, by unfold keepsK; rw [if_neg (by omega)]⟩
theorem keeps_chk {X : List Int} {L : List T3} (h : ¬ 4096 < X.length) (hn : ∀ v ∈ X, numB v = true) : keepsE X L = chkN X.length L := by
  unfold keepsE
  rw [if_neg h, if_pos (List.all_eq_true.2 hn)]
theorem keeps_at {X : List Int} {L : List T3} (h : keepsE X L = 0) {j : Nat} (hj : j < L.length) (h1 : firstOff X L j = none) (h2 : offB X (bk L j) = true) : keepsK X L = (j : Int) := by
  unfold keepsK
  rw [if_pos h, firstOff_some ((firstOff_none j).1 h1) h2 hj]
theorem keeps_none {X : List Int} {L : List T3} (h : keepsE X L = 0) (h1 : firstOff X L L.length = none) : keepsK X L = -1 := by
  unfold keepsK
  rw [if_pos h, h1]
theorem off_next {X : List Int} {L : List T3} {j : Nat} (h1 : firstOff X L j = none) (h2 : offB X (bk L j) = false) : firstOff X L (j + 1) = none := by
  show (match firstOff X L j with | some j => some j | none => if offB X (bk L j) then some j else none) = none
  rw [h1, h2]
  rfl
theorem take_num {X : List Int} {k : Nat} (h : ∀ v ∈ X.take k, numB v = true) (hk : k < X.length) (hn : numB X[k] = true) : ∀ v ∈ X.take (k + 1), numB v = true := by
  intro v hv
  rw [List.take_succ_eq_append_getElem hk] at hv
  rcases List.mem_append.1 hv with hv | hv
  · exact h v hv
  · simp at hv
    rw [hv]
    exact hn
theorem off_hot {x : List Int} {p q : Nat} {r : Int} (h : x.getD q 0 < x.getD p 0 + r) : offB x ⟨(p : Int), (q : Int), r⟩ = true := by
  unfold offB gi
  simp only [Int.toNat_natCast, decide_eq_true_eq]
  exact h
theorem off_cold {x : List Int} {p q : Nat} {r : Int} (h : ¬ x.getD q 0 < x.getD p 0 + r) : offB x ⟨(p : Int), (q : Int), r⟩ = false := by
  unfold offB gi
  simp only [Int.toNat_natCast, decide_eq_false_iff_not]
  exact h

set_option maxRecDepth 100000 in
set_option maxHeartbeats 8000000 in
theorem Keeps_any (B : Nat) (A Ax : Option Addr) (c cx : Nat) (X : List Int) (L : List T3) (w : World) (hA : At B w A (t3s L)) (hX : At B w Ax (ints X)) (hB : B ≤ w.heap.size) (hl : L.length ≤ 9000000000000000000) (hxl : X.length ≤ 9000000000000000000) :
    Calls Try.prog 41 #[.slice Ax X.length cx, .slice A L.length c] w (KeepsP X L w) := by
  by_cases hbig : 4096 < X.length
  · obtain ⟨e1, e2⟩ := keeps_big (L := L) hbig
    have hb : (4096 : Int) < (X.length : Int) := by omega
    unfold KeepsP
    rw [e1, e2]
    go_enter Try.func41, Try.ntmps41
    go_wp2
    go_ret2
    exact ⟨rfl, Below.refl _ _⟩
  · have hb : ¬ (4096 : Int) < (X.length : Int) := by omega
    obtain ⟨E, hE⟩ : ∃ E, keepsE X L = E := ⟨_, rfl⟩
    obtain ⟨K, hK⟩ : ∃ K, keepsK X L = K := ⟨_, rfl⟩
    have HN : Hid (∀ k (hk : k < X.length), numB X[k] = false → E = 2 ∧ K = 0) := Go.Lib.hid fun k hk hn => hE ▸ hK ▸ keeps_num hbig hk hn
    have HC : Hid ((∀ v ∈ X, numB v = true) → E = chkN X.length L) := Go.Lib.hid fun hn => hE ▸ keeps_chk hbig hn
    have HA : Hid (E = 0 → ∀ j, j < L.length → firstOff X L j = none → offB X (bk L j) = true → K = (j : Int)) := Go.Lib.hid fun h j hj h1 h2 => hK ▸ keeps_at (hE ▸ h) hj h1 h2
    have HZ : Hid (E = 0 → firstOff X L L.length = none → K = -1) := Go.Lib.hid fun h h1 => hK ▸ keeps_none (hE ▸ h) h1
    have HK0 : Hid (E ≠ 0 → K = 0) := Go.Lib.hid fun h => hK ▸ (by unfold keepsK; rw [if_neg (hE ▸ h)])
    unfold KeepsP
    rw [hE, hK]
    have hn4 : X.length ≤ 4096 := by omega
    have HCK := Go.Lib.hid (fun w h1 h2 => checkN_any B A c (X.length : Int) L w h1 h2 hl)
    clear hE hK hbig hxl
    go_enter Try.func41, Try.ntmps41
    go_wp2
    go_loop [16] (fun i => ∃ k : Nat, k ≤ X.length ∧ i = .int .i64 k ∧ Hid (∀ v ∈ X.take k, numB v = true)) (fun i => X.length - (intOf i).toNat)
    case atStart => exact ⟨0, by omega, rfl, Go.Lib.hid fun v hv => by simp at hv⟩
    case round =>
      obtain ⟨k, hk, rfl, HP⟩ := hrel
      by_cases hlt : k < X.length
      · have hli : (k : Int) < (X.length : Int) := by omega
        obtain ⟨gx, ox, rfl, hgx, x0⟩ := hX.int hlt
        have HT : Hid (numB X[k] = true → ∀ v ∈ X.take (k + 1), numB v = true) := Go.Lib.hid fun h => take_num HP.out hlt h
        have HN2 := Go.Lib.hid (HN.out k hlt)
        clear hX hA
        generalize X[k] = v at *
        by_cases h1 : v < -1099511627776
        · have hf := HN2.out (by simp [numB]; omega)
          obtain ⟨rfl, rfl⟩ := hf
          go_wp2
          go_ret2
          exact ⟨rfl, Below.refl _ _⟩
        · by_cases h2 : 1099511627776 < v
          · have hf := HN2.out (by simp [numB]; omega)
            obtain ⟨rfl, rfl⟩ := hf
            go_wp2
            go_ret2
            exact ⟨rfl, Below.refl _ _⟩
          · have HT2 := Go.Lib.hid (HT.out ((numB_iff v).2 (by omega)))
            go_wp2
            go_round
            case rel => exact ⟨k + 1, by omega, by go_num, HT2⟩
            case measure => simp [intOf]; omega
      · have hlt' : ¬ ((k : Int) < (X.length : Int)) := by omega
        have hkx : k = X.length := by omega
        have hec := HC.out (by have := HP.out; rw [hkx, List.take_length] at this; exact this)
        have hbx : Hid (∀ v, v < X.length → -1099511627776 ≤ X.getD v 0 ∧ X.getD v 0 ≤ 1099511627776) := Go.Lib.hid fun v hv => (numB_iff _).1 (by have := HP.out; rw [hkx, List.take_length] at this; exact this _ (mem_getD9 hv))
        clear HN HC HP
        go_wp2_with fail
        refine (HCK.out _ hA hB).mono ?_
        rintro e w1 ⟨rfl, hb1⟩
        have hs1 := hb1.size
        rw [← hec]
        by_cases hz : E = 0
        · obtain ⟨m, hm, h1, h2, hL⟩ := chkN_ok (hec ▸ hz)
          have em : m = X.length := by omega
          subst em
          have HO := Go.Lib.hid hL
          have HA2 := Go.Lib.hid (HA.out hz)
          have HZ2 := Go.Lib.hid (HZ.out hz)
          clear hec hm hL HA HZ HK0 HCK
          subst hz
          have hA0 := hA
          have hX0 := hX
          clear hA hX
          obtain ⟨m, hm⟩ : ∃ m, L.length = m := ⟨_, rfl⟩
          have HM := Go.Lib.hid hm
          rw [hm]
          have hm2 : m ≤ 4096 := by omega
          clear hl h2 hm
          go_wp2
          go_loopw [36] (fun i wr => ∃ j : Nat, j ≤ m ∧ i = .int .i64 j ∧ Hid (firstOff X L j = none) ∧ Below w.heap.size w wr) (fun i _ => m - (intOf i).toNat)
          case atStart => exact ⟨0, by omega, rfl, Go.Lib.hid rfl, hb1⟩
          case round =>
            obtain ⟨j, hj, rfl, HF, hbr⟩ := hrel
            have hsr := hbr.size
            by_cases hjm : j < m
            · have hji : (j : Int) < (m : Int) := by omega
              have hjL : j < L.length := by have := HM.out; omega
              have hA2 := hA0.below (hbr.mono hB)
              have hX2 := hX0.below (hbr.mono hB)
              obtain ⟨g, o, rfl, hg, c0, c1, c2⟩ := hA2.t3 hjL
              have hb := HO.out j hjL
              have hy := @off_next X L j HF.out
              have hk2 := HA2.out j hjL HF.out
              rw [← bk_at hjL] at c0 c1 c2
              generalize bk L j = b at *
              obtain ⟨bp, bq, br⟩ := b
              obtain ⟨⟨hp0, hp1⟩, ⟨hq0, hq1⟩, hr0, hr1⟩ := hb
              simp only at hp0 hp1 hq0 hq1 hr0 hr1 c0 c1 c2
              obtain ⟨p, rfl⟩ : ∃ p : Nat, bp = (p : Int) := ⟨bp.toNat, by omega⟩
              obtain ⟨q, rfl⟩ : ∃ q : Nat, bq = (q : Int) := ⟨bq.toNat, by omega⟩
              have hp : p < X.length := by omega
              have hq : q < X.length := by omega
              have hvp := hbx.out p hp
              have hvq := hbx.out q hq
              have lg := World.block_lt_of_cell? _ _ c0
              have HY := Go.Lib.hid fun h => hy (@off_cold X p q br h)
              have HK2 := Go.Lib.hid fun h => hk2 (@off_hot X p q br h)
              clear hy hk2
              go_wp2
              generalize hwx : World.alloc _ _ = wx
              have hbk : wx.heap[wr.heap.size]? = some (.cells #[.int .i64 p, .int .i64 q, .int .i64 br] 54 (0, 0)) := by rw [← hwx]; exact alloc_at _ _
              have hbx2 : Below w.heap.size w wx := hwx ▸ hbr.alloc hsr _
              have hsx : w.heap.size ≤ wx.heap.size := hbx2.size
              have hXx := hX0.below (hbx2.mono hB)
              clear hbr hsr hA2 hX2 hwx c0 c1 c2 lg
              generalize wr.heap.size = bb at *
              have k0 := blk_cell hbk 0
              have k1 := blk_cell hbk 1
              have k2 := blk_cell hbk 2
              simp at k0 k1 k2
              have lb := blk_lt2 hbk
              obtain ⟨gx, ox, rfl, hgx, hcx⟩ := hXx.all (by omega)
              have x1 := hcx p hp
              have x2 := hcx q hq
              have lx : gx < wx.heap.size := World.block_lt_of_cell? _ _ x1
              obtain ⟨xp, hxp⟩ : ∃ xp, X.getD p 0 = xp := ⟨_, rfl⟩
              obtain ⟨xq, hxq⟩ : ∃ xq, X.getD q 0 = xq := ⟨_, rfl⟩
              rw [hxp] at hvp x1 HY HK2
              rw [hxq] at hvq x2 HY HK2
              clear hxp hxq hcx hXx
              by_cases hot : xq - xp < br
              · have hkj := HK2.out (by omega)
                subst hkj
                refine region_ext mixed (by kernel_rfl) ?_
                repeat (go_big_quiet_step (fail))
                refine wpQuiet_nil ?_
                intro w3 hb3
                go_wp2
                go_ret2
                exact ⟨rfl, hbx2.trans (hb3.mono hsx)⟩
              · have HF2 := Go.Lib.hid (HY.out (by omega))
                have hcold : decide (xq - xp < br) = false := by simp; omega
                refine region_ext mixed (by kernel_rfl) ?_
                repeat (go_big_quiet_step (fail))
                refine wpQuiet_nil ?_
                intro w3 hb3
                go_wp2
                exact ⟨⟨j + 1, by omega, by go_num, HF2, hbx2.trans (hb3.mono hsx)⟩, by simp [intOf]; omega⟩
            · have hjm' : ¬ ((j : Int) < (m : Int)) := by omega
              have hjL : j = L.length := by have := HM.out; omega
              have hkn := HZ2.out (by rw [← hjL]; exact HF.out)
              subst hkn
              go_wp2
              go_ret2
              exact ⟨rfl, hbr⟩
        · have hk0 := HK0.out hz
          subst hk0
          have hne : (E != 0) = true := by simpa using hz
          clear hec
          go_wp2
          go_ret2
          exact ⟨rfl, hb1⟩

set_option maxRecDepth 100000 in
set_option maxHeartbeats 8000000 in
theorem rKeeps_any (B : Nat) (A Ax : Option Addr) (c cx : Nat) (X : List Int) (L : List T3) (w : World) (hA : At B w A (t3s L)) (hX : At B w Ax (ints X)) (hB : B ≤ w.heap.size) (hl : L.length ≤ 9000000000000000000) (hxl : X.length ≤ 9000000000000000000) :
    Calls Try.prog 42 #[.slice Ax X.length cx, .slice A L.length c] w (KeepsP X L w) := by
  by_cases hbig : 4096 < X.length
  · obtain ⟨e1, e2⟩ := keeps_big (L := L) hbig
    have hb : (4096 : Int) < (X.length : Int) := by omega
    unfold KeepsP
    rw [e1, e2]
    go_enter Try.func42, Try.ntmps42
    go_wp2
    go_ret2
    exact ⟨rfl, Below.refl _ _⟩
  · have hb : ¬ (4096 : Int) < (X.length : Int) := by omega
    obtain ⟨E, hE⟩ : ∃ E, keepsE X L = E := ⟨_, rfl⟩
    obtain ⟨K, hK⟩ : ∃ K, keepsK X L = K := ⟨_, rfl⟩
    have HN : Hid (∀ k (hk : k < X.length), numB X[k] = false → E = 2 ∧ K = 0) := Go.Lib.hid fun k hk hn => hE ▸ hK ▸ keeps_num hbig hk hn
    have HC : Hid ((∀ v ∈ X, numB v = true) → E = chkN X.length L) := Go.Lib.hid fun hn => hE ▸ keeps_chk hbig hn
    have HA : Hid (E = 0 → ∀ j, j < L.length → firstOff X L j = none → offB X (bk L j) = true → K = (j : Int)) := Go.Lib.hid fun h j hj h1 h2 => hK ▸ keeps_at (hE ▸ h) hj h1 h2
    have HZ : Hid (E = 0 → firstOff X L L.length = none → K = -1) := Go.Lib.hid fun h h1 => hK ▸ keeps_none (hE ▸ h) h1
    have HK0 : Hid (E ≠ 0 → K = 0) := Go.Lib.hid fun h => hK ▸ (by unfold keepsK; rw [if_neg (hE ▸ h)])
    unfold KeepsP
    rw [hE, hK]
    have hn4 : X.length ≤ 4096 := by omega
    have HCK := Go.Lib.hid (fun w h1 h2 => rcheckN_any B A c (X.length : Int) L w h1 h2 hl)
    clear hE hK hbig hxl
    go_enter Try.func42, Try.ntmps42
    go_wp2
    go_loop [6] (fun i => ∃ k : Nat, k ≤ X.length ∧ i = .int .i64 k ∧ Hid (∀ v ∈ X.take k, numB v = true)) (fun i => X.length - (intOf i).toNat)
    case atStart => exact ⟨0, by omega, rfl, Go.Lib.hid fun v hv => by simp at hv⟩
    case round =>
      obtain ⟨k, hk, rfl, HP⟩ := hrel
      by_cases hlt : k < X.length
      · have hli : (k : Int) < (X.length : Int) := by omega
        obtain ⟨gx, ox, rfl, hgx, x0⟩ := hX.int hlt
        have HT : Hid (numB X[k] = true → ∀ v ∈ X.take (k + 1), numB v = true) := Go.Lib.hid fun h => take_num HP.out hlt h
        have HN2 := Go.Lib.hid (HN.out k hlt)
        clear hX hA
        generalize X[k] = v at *
        by_cases h1 : v < -1099511627776
        · have hf := HN2.out (by simp [numB]; omega)
          obtain ⟨rfl, rfl⟩ := hf
          go_wp2
          go_ret2
          exact ⟨rfl, Below.refl _ _⟩
        · by_cases h2 : 1099511627776 < v
          · have hf := HN2.out (by simp [numB]; omega)
            obtain ⟨rfl, rfl⟩ := hf
            go_wp2
            go_ret2
            exact ⟨rfl, Below.refl _ _⟩
          · have HT2 := Go.Lib.hid (HT.out ((numB_iff v).2 (by omega)))
            go_wp2
            go_round
            case rel => exact ⟨k + 1, by omega, by go_num, HT2⟩
            case measure => simp [intOf]; omega
      · have hlt' : ¬ ((k : Int) < (X.length : Int)) := by omega
        have hkx : k = X.length := by omega
        have hec := HC.out (by have := HP.out; rw [hkx, List.take_length] at this; exact this)
        have hbx : Hid (∀ v, v < X.length → -1099511627776 ≤ X.getD v 0 ∧ X.getD v 0 ≤ 1099511627776) := Go.Lib.hid fun v hv => (numB_iff _).1 (by have := HP.out; rw [hkx, List.take_length] at this; exact this _ (mem_getD9 hv))
        clear HN HC HP
        go_wp2_with fail
        refine (HCK.out _ hA hB).mono ?_
        rintro e w1 ⟨rfl, hb1⟩
        have hs1 := hb1.size
        rw [← hec]
        by_cases hz : E = 0
        · obtain ⟨m, hm, h1, h2, hL⟩ := chkN_ok (hec ▸ hz)
          have em : m = X.length := by omega
          subst em
          have HO := Go.Lib.hid hL
          have HA2 := Go.Lib.hid (HA.out hz)
          have HZ2 := Go.Lib.hid (HZ.out hz)
          clear hec hm hL HA HZ HK0 HCK
          subst hz
          have hA0 := hA
          have hX0 := hX
          clear hA hX
          obtain ⟨m, hm⟩ : ∃ m, L.length = m := ⟨_, rfl⟩
          have HM := Go.Lib.hid hm
          rw [hm]
          have hm2 : m ≤ 4096 := by omega
          clear hl h2 hm
          go_wp2
          go_loopw [8] (fun i wr => ∃ j : Nat, j ≤ m ∧ i = .int .i64 j ∧ Hid (firstOff X L j = none) ∧ Below w.heap.size w wr) (fun i _ => m - (intOf i).toNat)
          case atStart => exact ⟨0, by omega, rfl, Go.Lib.hid rfl, hb1⟩
          case round =>
            obtain ⟨j, hj, rfl, HF, hbr⟩ := hrel
            have hsr := hbr.size
            by_cases hjm : j < m
            · have hji : (j : Int) < (m : Int) := by omega
              have hjL : j < L.length := by have := HM.out; omega
              have hA2 := hA0.below (hbr.mono hB)
              have hX2 := hX0.below (hbr.mono hB)
              obtain ⟨g, o, rfl, hg, c0, c1, c2⟩ := hA2.t3 hjL
              have hb := HO.out j hjL
              have hy := @off_next X L j HF.out
              have hk2 := HA2.out j hjL HF.out
              rw [← bk_at hjL] at c0 c1 c2
              generalize bk L j = b at *
              obtain ⟨bp, bq, br⟩ := b
              obtain ⟨⟨hp0, hp1⟩, ⟨hq0, hq1⟩, hr0, hr1⟩ := hb
              simp only at hp0 hp1 hq0 hq1 hr0 hr1 c0 c1 c2
              obtain ⟨p, rfl⟩ : ∃ p : Nat, bp = (p : Int) := ⟨bp.toNat, by omega⟩
              obtain ⟨q, rfl⟩ : ∃ q : Nat, bq = (q : Int) := ⟨bq.toNat, by omega⟩
              have hp : p < X.length := by omega
              have hq : q < X.length := by omega
              have hvp := hbx.out p hp
              have hvq := hbx.out q hq
              have lg := World.block_lt_of_cell? _ _ c0
              have HY := Go.Lib.hid fun h => hy (@off_cold X p q br h)
              have HK2 := Go.Lib.hid fun h => hk2 (@off_hot X p q br h)
              clear hy hk2
              have hXx := hX2
              have hbx2 := hbr
              have hsx := hsr
              obtain ⟨gx, ox, rfl, hgx, hcx⟩ := hXx.all (by omega)
              have x1 := hcx p hp
              have x2 := hcx q hq
              have lx : gx < wr.heap.size := World.block_lt_of_cell? _ _ x1
              obtain ⟨xp, hxp⟩ : ∃ xp, X.getD p 0 = xp := ⟨_, rfl⟩
              obtain ⟨xq, hxq⟩ : ∃ xq, X.getD q 0 = xq := ⟨_, rfl⟩
              rw [hxp] at hvp x1 HY HK2
              rw [hxq] at hvq x2 HY HK2
              clear hxp hxq hcx hXx
              by_cases hot : xq < xp + br
              · have hkj := HK2.out (by omega)
                subst hkj
                go_wp2
                refine region_ext mixed (by kernel_rfl) ?_
                repeat (go_big_quiet_step (fail))
                refine wpQuiet_nil ?_
                intro w3 hb3
                go_wp2
                go_ret2
                exact ⟨rfl, hbx2.trans (hb3.mono hsx)⟩
              · have HF2 := Go.Lib.hid (HY.out (by omega))
                have hcold : decide (xq < xp + br) = false := by simp; omega
                go_wp2
                refine region_ext mixed (by kernel_rfl) ?_
                repeat (go_big_quiet_step (fail))
                refine wpQuiet_nil ?_
                intro w3 hb3
                go_wp2
                exact ⟨⟨j + 1, by omega, by go_num, HF2, hbx2.trans (hb3.mono hsx)⟩, by simp [intOf]; omega⟩
            · have hjm' : ¬ ((j : Int) < (m : Int)) := by omega
              have hjL : j = L.length := by have := HM.out; omega
              have hkn := HZ2.out (by rw [← hjL]; exact HF.out)
              subst hkn
              go_wp2
              go_ret2
              exact ⟨rfl, hbr⟩
        · have hk0 := HK0.out hz
          subst hk0
          have hne : (E != 0) = true := by simpa using hz
          clear hec
          go_wp2
          go_ret2
          exact ⟨rfl, hb1⟩
end Go.Proofs.Ythannibclhidcaa
