/- Layer 7: Says of both sides; the law WrapChecks. (Printed by wrap/gen_d.py.) -/
import Derived.Test.YtfieldhlgipimaaDoorWrC
namespace Go.Proofs.YtfieldhlgipimaaDoor
set_option linter.unusedVariables false
set_option linter.unusedSimpArgs false
set_option maxRecDepth 100000
open Go.RowKit

theorem alloc_at (w : World) (o : Obj) : (w.alloc o).heap[w.heap.size]? = some o := by
  show (w.heap.push o)[w.heap.size]? = some o
  simp
def foldW (c : Int) (L : List Wr) : Int := L.foldl saysW c
theorem foldW_take (c : Int) (L : List Wr) (k : Nat) (h : k < L.length) : foldW c (L.take (k + 1)) = saysW (foldW c (L.take k)) L[k] := by
  rw [List.take_succ_eq_append_getElem h]
  simp only [foldW, List.foldl_append, List.foldl_cons, List.foldl_nil]
theorem foldW_bd {c : Int} (h : 0 ≤ c ∧ c ≤ 65535) (L : List Wr) : 0 ≤ foldW c L ∧ foldW c L ≤ 65535 := by
  induction L generalizing c with
  | nil => exact h
  | cons t L ih => exact ih (saysW_bd t h)
def saysE (c : Int) (L : List Wr) : Int := if c ≤ 63 then chkL L else 2
def saysR (c : Int) (L : List Wr) : Int := if saysE c L = 0 then foldW c L else 0

set_option maxHeartbeats 2000000 in
set_option maxRecDepth 1000000 in
theorem Says_any (B : Nat) (A : Option Addr) (c : Nat) (L : List Wr) (hok : ∀ t ∈ L, t.ok) (w : World) (hT : Tabs w) (hA : At B w A (wrs L)) (hB : B ≤ w.heap.size) (hl : L.length ≤ 9000000000000000000) (can : Int) (hc : 0 ≤ can ∧ can ≤ 65535) :
    Calls Tryd.prog 4 #[.int .u16 can, .slice A L.length c] w fun e w' => e = .returned (.tuple #[.int .u16 (saysR can L), .int .i64 (saysE can L)]) ∧ Below w.heap.size w w' := by
  have h63 := not63 hc
  by_cases h1 : can ≤ 63
  · have h2 : bits .andNot .u16 can 63 = 0 := h63.2 h1
    have hE : saysE can L = chkL L := by simp [saysE, h1]
    have hR : saysR can L = if chkL L = 0 then foldW can L else 0 := by simp [saysR, hE]
    rw [hE, hR]
    clear hE hR h63
    have HC := Go.Lib.hid (checks_any B A c L hok w hT hA hB hl)
    clear hT hok
    by_cases h0 : chkL L = 0
    · rw [h0] at HC ⊢
      rw [if_pos rfl]
      have HF : Hid (∀ k, 0 ≤ foldW can (L.take k) ∧ foldW can (L.take k) ≤ 65535) := Go.Lib.hid fun k => foldW_bd hc _
      clear h0 hc
      go_enter Tryd.func4, Tryd.ntmps4
      go_wp2_with fail
      refine HC.out.mono ?_
      rintro e w1 ⟨rfl, hb1⟩
      have hs1 := hb1.size
      have hA1 := hA.below (hb1.mono hB)
      clear hA HC
      go_wp2
      go_loopw [0, 19] (fun cv i wr => ∃ k : Nat, k ≤ L.length ∧ i = .int .i64 k ∧ cv = .int .u16 (foldW can (L.take k)) ∧ Below w.heap.size w1 wr) (fun _ i _ => L.length - (intOf i).toNat)
      case atStart => exact ⟨0, by omega, rfl, rfl, Below.refl _ _⟩
      case round =>
        obtain ⟨k, hk, rfl, rfl, hbr⟩ := hrel
        have hsr := hbr.size
        by_cases hlt : k < L.length
        · have hli : (k : Int) < (L.length : Int) := by omega
          obtain ⟨g, o, rfl, hg, c0, c1, c2, c3⟩ := (hA1.below (hbr.mono hB)).wr hlt
          have hsu := foldW_take can L k hlt
          have hfb := HF.out k
          generalize L[k] = t at *
          have HS := Go.Lib.hid hsu
          have HY := Go.Lib.hid fun w => says_any (foldW can (L.take k)) t w hfb
          clear hsu
          go_wp2_with fail
          refine (HY.out _).mono ?_
          rintro e w2 ⟨rfl, hb2⟩
          go_wp2
          go_roundw
          case rel => exact ⟨k + 1, by omega, by go_num, by rw [HS.out], (hbr.alloc (by omega) _).trans (hb2.mono (by simp; omega))⟩
          case measure => simp [intOf]; omega
        · have hlt' : ¬ ((k : Int) < (L.length : Int)) := by omega
          have hkl : k = L.length := by omega
          have e : foldW can (L.take k) = foldW can L := by rw [hkl, List.take_length]
          rw [e]
          clear hA1
          go_wp2
          exact bodyPost_ret (by simp [results, Tryd.results4, go_sem, *]) rfl ⟨rfl, hb1.trans hbr⟩
    · rw [if_neg h0]
      have hne : (chkL L != 0) = true := by simpa using h0
      clear h0
      generalize chkL L = E at *
      go_enter Tryd.func4, Tryd.ntmps4
      go_wp2_with fail
      refine HC.out.mono ?_
      rintro e w1 ⟨rfl, hb1⟩
      go_wp2
      exact bodyPost_ret (by simp [results, Tryd.results4, go_sem, *]) rfl ⟨rfl, hb1⟩
  · have h2 : ¬ bits .andNot .u16 can 63 = 0 := fun h => h1 (h63.1 h)
    have h3 : (bits .andNot .u16 can 63 != 0) = true := by simpa using h2
    have h4 : 63 < can := by omega
    have hE : saysE can L = 2 := by simp [saysE, h1]
    have hR : saysR can L = 0 := by simp [saysR, hE]
    rw [hE, hR]
    clear hE hR h63 h2
    go_enter Tryd.func4, Tryd.ntmps4
    go_wp2
    exact bodyPost_ret (by simp [results, Tryd.results4, go_sem, *]) rfl ⟨rfl, Below.refl _ _⟩

set_option maxHeartbeats 2000000 in
set_option maxRecDepth 1000000 in
theorem rSays_any (B : Nat) (A : Option Addr) (c : Nat) (L : List Wr) (hok : ∀ t ∈ L, t.ok) (w : World) (hT : Tabs w) (hA : At B w A (wrs L)) (hB : B ≤ w.heap.size) (hl : L.length ≤ 9000000000000000000) (can : Int) (hc : 0 ≤ can ∧ can ≤ 65535) :
    Calls Tryd.prog 5 #[.int .u16 can, .slice A L.length c] w fun e w' => e = .returned (.tuple #[.int .u16 (saysR can L), .int .i64 (saysE can L)]) ∧ Below w.heap.size w w' := by
  have h63 := not63 hc
  by_cases h1 : can ≤ 63
  · have h2 : bits .andNot .u16 can 63 = 0 := h63.2 h1
    have hE : saysE can L = chkL L := by simp [saysE, h1]
    have hR : saysR can L = if chkL L = 0 then foldW can L else 0 := by simp [saysR, hE]
    rw [hE, hR]
    clear hE hR h63
    have HC := Go.Lib.hid (rchecks_any B A c L hok w hT hA hB hl)
    clear hT hok
    by_cases h0 : chkL L = 0
    · rw [h0] at HC ⊢
      rw [if_pos rfl]
      have HF : Hid (∀ k, 0 ≤ foldW can (L.take k) ∧ foldW can (L.take k) ≤ 65535) := Go.Lib.hid fun k => foldW_bd hc _
      clear h0 hc
      go_enter Tryd.func5, Tryd.ntmps5
      go_wp2_with fail
      refine HC.out.mono ?_
      rintro e w1 ⟨rfl, hb1⟩
      have hs1 := hb1.size
      have hA1 := hA.below (hb1.mono hB)
      clear hA HC
      go_wp2
      go_loopw [0, 7] (fun cv i wr => ∃ k : Nat, k ≤ L.length ∧ i = .int .i64 k ∧ cv = .int .u16 (foldW can (L.take k)) ∧ Below w.heap.size w1 wr) (fun _ i _ => L.length - (intOf i).toNat)
      case atStart => exact ⟨0, by omega, rfl, rfl, Below.refl _ _⟩
      case round =>
        obtain ⟨k, hk, rfl, rfl, hbr⟩ := hrel
        have hsr := hbr.size
        by_cases hlt : k < L.length
        · have hli : (k : Int) < (L.length : Int) := by omega
          obtain ⟨g, o, rfl, hg, c0, c1, c2, c3⟩ := (hA1.below (hbr.mono hB)).wr hlt
          have hsu := foldW_take can L k hlt
          have hfb := HF.out k
          generalize L[k] = t at *
          have HS := Go.Lib.hid hsu
          have HY := Go.Lib.hid fun w => rsays_any (foldW can (L.take k)) t w hfb
          clear hsu
          go_wp2_with fail
          refine (HY.out _).mono ?_
          rintro e w2 ⟨rfl, hb2⟩
          go_wp2
          go_roundw
          case rel => exact ⟨k + 1, by omega, by go_num, by rw [HS.out], hbr.trans (hb2.mono (by omega))⟩
          case measure => simp [intOf]; omega
        · have hlt' : ¬ ((k : Int) < (L.length : Int)) := by omega
          have hkl : k = L.length := by omega
          have e : foldW can (L.take k) = foldW can L := by rw [hkl, List.take_length]
          rw [e]
          clear hA1
          go_wp2
          exact bodyPost_ret (by simp [results, Tryd.results5, go_sem, *]) rfl ⟨rfl, hb1.trans hbr⟩
    · rw [if_neg h0]
      have hne : (chkL L != 0) = true := by simpa using h0
      clear h0
      generalize chkL L = E at *
      go_enter Tryd.func5, Tryd.ntmps5
      go_wp2_with fail
      refine HC.out.mono ?_
      rintro e w1 ⟨rfl, hb1⟩
      go_wp2
      exact bodyPost_ret (by simp [results, Tryd.results5, go_sem, *]) rfl ⟨rfl, hb1⟩
  · have h2 : ¬ bits .andNot .u16 can 63 = 0 := fun h => h1 (h63.1 h)
    have h3 : (bits .andNot .u16 can 63 != 0) = true := by simpa using h2
    have h4 : 63 < can := by omega
    have hE : saysE can L = 2 := by simp [saysE, h1]
    have hR : saysR can L = 0 := by simp [saysR, hE]
    rw [hE, hR]
    clear hE hR h63 h2
    go_enter Tryd.func5, Tryd.ntmps5
    go_wp2
    exact bodyPost_ret (by simp [results, Tryd.results5, go_sem, *]) rfl ⟨rfl, Below.refl _ _⟩

set_option maxHeartbeats 2000000 in
set_option maxRecDepth 1000000 in
theorem walkWrapChecks (w : World) (hT : Tabs w) (t : Wr) (ht : t.ok) (can : Int) (hc : 0 ≤ can ∧ can ≤ 65535) (A : Option Addr) (c : Nat) (L : List Wr) (hok : ∀ t ∈ L, t.ok) (hA : At w.heap.size w A (wrs L)) (hlc : L.length ≤ c) (hcm : c ≤ maxLen) :
    Calls Tryd.prog 3 #[.agg #[.int .u8 t.k, .int .u16 t.m, .int .i64 t.n, .string t.s], .int .u16 can, .slice A L.length c] w fun e w' => e = .returned (.bool true) ∧ Below w.heap.size w w' := by
  have hm : (L.length : Int) ≤ 9223372036854775807 := by unfold maxLen at hcm; omega
  by_cases hbig : 3000 < L.length
  · have hb : (3000 : Int) < (L.length : Int) := by omega
    go_enter Tryd.func3, Tryd.ntmps3
    go_wp2
    go_ret
    exact ⟨rfl, (by repeat (first | exact Below.refl _ _ | with_reducible refine Below.alloc ?_ (by first | (simp; done) | (simp; omega) | omega) _ | with_reducible refine Below.setCell ?_ (by first | (simp; done) | (simp; omega) | omega) _ | with_reducible refine Below.drew ?_ | with_reducible refine Below.trans ?_ (Below.mono (by assumption) (by first | (simp; done) | (simp; omega) | omega))))⟩
  · have hb : ¬ (3000 : Int) < (L.length : Int) := by omega
    have HS : Hid (∀ w, Tabs w → ∀ B, At B w A (wrs L) → B ≤ w.heap.size → Calls Tryd.prog 4 #[.int .u16 can, .slice A L.length c] w fun e w' => e = .returned (.tuple #[.int .u16 (saysR can L), .int .i64 (saysE can L)]) ∧ Below w.heap.size w w') := Go.Lib.hid fun w h B h1 h2 => Says_any B A c L hok w h h1 h2 (by omega) can hc
    have HR : Hid (∀ w, Tabs w → ∀ B, At B w A (wrs L) → B ≤ w.heap.size → Calls Tryd.prog 5 #[.int .u16 can, .slice A L.length c] w fun e w' => e = .returned (.tuple #[.int .u16 (saysR can L), .int .i64 (saysE can L)]) ∧ Below w.heap.size w w') := Go.Lib.hid fun w h B h1 h2 => rSays_any B A c L hok w h h1 h2 (by omega) can hc
    have HC : Hid (∀ w, Tabs w → Calls Tryd.prog 6 #[.agg #[.int .u8 t.k, .int .u16 t.m, .int .i64 t.n, .string t.s]] w fun e w' => e = .returned (.int .i64 (chkW t.k t.m t.n t.s)) ∧ Below w.heap.size w w') := Go.Lib.hid fun w h => Check_any _ _ _ _ w h ht.2.2 ht.2.1
    have HD : Hid (∀ w, Tabs w → Calls Tryd.prog 7 #[.agg #[.int .u8 t.k, .int .u16 t.m, .int .i64 t.n, .string t.s]] w fun e w' => e = .returned (.int .i64 (chkW t.k t.m t.n t.s)) ∧ Below w.heap.size w w') := Go.Lib.hid fun w h => rCheck_any _ _ _ _ w h ht.2.2 ht.2.1
    have HT := Go.Lib.hid hT
    have HA := Go.Lib.hid hA
    obtain ⟨k, m, n, s⟩ := t
    clear hT hA hok ht hlc hcm hc hbig
    simp only at HC HD ⊢
    generalize saysR can L = R at *
    generalize saysE can L = E at *
    generalize chkW k m n s = K at *
    go_enter Tryd.func3, Tryd.ntmps3
    go_wp2_with fail
    refine (HS.out _ (tabs_on HT.out (by repeat (first | exact Below.refl _ _ | with_reducible refine Below.alloc ?_ (by first | (simp; done) | (simp; omega) | omega) _ | with_reducible refine Below.setCell ?_ (by first | (simp; done) | (simp; omega) | omega) _ | with_reducible refine Below.drew ?_ | with_reducible refine Below.trans ?_ (Below.mono (by assumption) (by first | (simp; done) | (simp; omega) | omega))))) w.heap.size (HA.out.below (by repeat (first | exact Below.refl _ _ | with_reducible refine Below.alloc ?_ (by first | (simp; done) | (simp; omega) | omega) _ | with_reducible refine Below.setCell ?_ (by first | (simp; done) | (simp; omega) | omega) _ | with_reducible refine Below.drew ?_ | with_reducible refine Below.trans ?_ (Below.mono (by assumption) (by first | (simp; done) | (simp; omega) | omega))))) (by first | (simp; done) | (simp; omega) | omega)).mono ?_
    rintro e w1 ⟨rfl, hb1⟩
    have hs1 := hb1.size
    simp at hs1
    have hb0 : Below w.heap.size w (w.alloc (.cells #[.int .u8 k, .int .u16 m, .int .i64 n, .string s] 24)) := (by repeat (first | exact Below.refl _ _ | with_reducible refine Below.alloc ?_ (by first | (simp; done) | (simp; omega) | omega) _ | with_reducible refine Below.setCell ?_ (by first | (simp; done) | (simp; omega) | omega) _ | with_reducible refine Below.drew ?_ | with_reducible refine Below.trans ?_ (Below.mono (by assumption) (by first | (simp; done) | (simp; omega) | omega))))
    have hb01 := hb0.trans (hb1.mono (by simp))
    have hk1 := (blk_cell (show w1.heap[w.heap.size]? = some (.cells #[.int .u8 k, .int .u16 m, .int .i64 n, .string s] 24 (0, 0)) from (hb1.block _ (by simp)).trans (alloc_at _ _)))
    clear hb1
    go_wp2_with fail
    refine (HR.out _ (tabs_on HT.out hb01) w.heap.size (HA.out.below hb01) (by omega)).mono ?_
    rintro e w2 ⟨rfl, hb2⟩
    have hb02 := hb01.trans (hb2.mono (by omega))
    have hs2 := hb2.size
    have hl1 : w.heap.size < w1.heap.size := by omega
    have hk2 : ∀ i : Nat, w2.cell? ⟨w.heap.size, i, none⟩ = _ := fun i => (hb2.cell (p := ⟨w.heap.size, i, none⟩) hl1).trans (hk1 i)
    have z0 := hk2 0
    have z1 := hk2 1
    have z2 := hk2 2
    have z3 := hk2 3
    simp at z0 z1 z2 z3
    clear hk1 hb2 hb01 hk2
    have HT2 := Go.Lib.hid (tabs_on HT.out hb02)
    have hlt2 : w.heap.size < w2.heap.size := by omega
    go_wp2
    refine region_ext_last 1 mixed (by kernel_rfl) ?_
    simp only [List.length_cons, List.length_nil, Nat.reduceAdd, Nat.reduceSub, List.take_succ_cons, List.take_zero, List.drop_succ_cons, List.drop_zero]
    repeat (go_big_quiet_step (first | (go_at_call 6; exact in_ext (HC.out _ (tabs_on HT2.out (Subtype.property _)))) | (go_at_call 7; exact in_ext (HD.out _ (tabs_on HT2.out (Subtype.property _))))))
    refine wpQuiet_nil ?_
    intro w3 hb3
    go_wp2
    go_ret
    exact ⟨rfl, hb02.trans (hb3.mono (by omega))⟩

end Go.Proofs.YtfieldhlgipimaaDoor
