/- Layer 9: Solve, both sides. -/
import Derived.Test.YthannibclhidcaaLeP
import Derived.Test.YthannibclhidcaaLeSays
namespace Go.Proofs.Ythannibclhidcaa
set_option linter.unusedVariables false
set_option linter.unusedSimpArgs false
open Go.RowKit
attribute [local go_sem] max_fold min_fold

theorem IntsE.of {l : List Int} {err : Int} {W W1 w' : World} {A : Option Addr} {n c : Nat} (hl : l.length = n) (h : w'.ownsRow W1.heap.size 3 1 (.slice A n c) n (ints l)) (hs : W.heap.size ≤ W1.heap.size) (hb : Below W.heap.size W w') : IntsE l err W (.returned (.tuple #[.slice A n c, .int .i64 err])) w' := by
  subst hl
  exact IntsE.mk h hs hb
theorem solve_vals {m : Nat} {L : List T3} (h0 : chkN m L = 0) : ((fin m L).last = -1 → solveE m L = 0 ∧ solveR m L = (fin m L).x) ∧ ((fin m L).last ≠ -1 → solveE m L = 90 ∧ solveR m L = []) := by
  refine ⟨fun h => ?_, fun h => ?_⟩
  · have e : solveE m L = 0 := by
      unfold solveE
      rw [if_pos h0, if_pos (by simpa using h)]
    refine ⟨e, ?_⟩
    unfold solveR
    rw [if_pos e]
    rfl
  · have e : solveE m L = 90 := by
      unfold solveE
      rw [if_pos h0, if_neg (by simpa using h)]
    refine ⟨e, ?_⟩
    unfold solveR
    rw [if_neg (by omega)]
theorem fin_last {m : Nat} {L : List T3} (hL : okL m L) : (fin m L).last = -1 ∨ 0 ≤ (fin m L).last ∧ (fin m L).last < m := by
  obtain ⟨K, t, hI, _, _⟩ := fin_inv hL
  rcases hI.last with ⟨h, _⟩ | ⟨v, hv, h, _⟩
  · exact .inl h
  · exact .inr ⟨by omega, by omega⟩

set_option maxHeartbeats 2000000 in
theorem Solve_any (B : Nat) (A : Option Addr) (c : Nat) (n : Int) (L : List T3) (w : World) (hA : At B w A (t3s L)) (hB : B ≤ w.heap.size) (hl : L.length ≤ 9000000000000000000) :
    Calls Try.prog 32 #[.int .i64 n, .slice A L.length c] w (IntsE (solveR n L) (solveE n L) w) := by
  by_cases h0 : chkN n L = 0
  · obtain ⟨m, rfl, hm, hlm, hL⟩ := chkN_ok h0
    have HC := Go.Lib.hid (fun w h1 h2 => h0 ▸ checkN_any B A c (m : Int) L w h1 h2 hl)
    have HR := Go.Lib.hid (fun w h1 h2 => rounds_any B A c m L w h1 h2 hm hlm hL)
    have hla := fin_last hL
    have hxl := (fin_len m L).1
    obtain ⟨hv1, hv2⟩ := solve_vals h0
    by_cases hlast : (fin m L).last = -1
    · obtain ⟨e1, e2⟩ := hv1 hlast
      rw [e1, e2]
      clear hv1 hv2 e1 e2 h0
      go_enter Try.func32, Try.ntmps32
      go_wp2_with fail
      refine (HC.out _ hA hB).mono ?_
      rintro e w1 ⟨rfl, hb1⟩
      have hA1 := hA.below (hb1.mono hB)
      have hs1 := hb1.size
      go_wp2_with fail
      refine (HR.out _ hA1 (by omega)).mono ?_
      rintro e w2 ⟨gx, gm, k, rfl, hk, _, hox, _, hb2⟩
      have hk0 : k = 0 := by omega
      subst hk0
      have hs2 := hb2.size
      go_wp2
      go_ret2
      exact IntsE.of hxl (hox.alloc _) hs1 ((hb1.trans (hb2.mono hs1)).alloc (by omega) _)
    · obtain ⟨e1, e2⟩ := hv2 hlast
      rw [e1, e2]
      clear hv1 hv2 e1 e2 h0
      go_enter Try.func32, Try.ntmps32
      go_wp2_with fail
      refine (HC.out _ hA hB).mono ?_
      rintro e w1 ⟨rfl, hb1⟩
      have hA1 := hA.below (hb1.mono hB)
      have hs1 := hb1.size
      go_wp2_with fail
      refine (HR.out _ hA1 (by omega)).mono ?_
      rintro e w2 ⟨gx, gm, k, rfl, hk, _, hox, _, hb2⟩
      have hk0 : 0 < k := by omega
      have hs2 := hb2.size
      clear hk
      go_wp2
      go_ret2
      exact IntsE.none ((hb1.trans (hb2.mono hs1)).alloc (by omega) _)
  · have hne : (chkN n L != 0) = true := by simpa using h0
    have e1 : solveE n L = chkN n L := by simp [solveE, h0]
    rw [e1, solveR_nil (by rw [e1]; exact h0)]
    go_enter Try.func32, Try.ntmps32
    go_wp2_with fail
    refine (checkN_any B A c n L _ hA hB hl).mono ?_
    rintro e w1 ⟨rfl, hb1⟩
    go_wp2
    go_ret2
    exact IntsE.none hb1

set_option maxHeartbeats 2000000 in
theorem rSolve_any (B : Nat) (A : Option Addr) (c : Nat) (n : Int) (L : List T3) (w : World) (hA : At B w A (t3s L)) (hB : B ≤ w.heap.size) (hl : L.length ≤ 9000000000000000000) :
    Calls Try.prog 33 #[.int .i64 n, .slice A L.length c] w (IntsE (solveR n L) (solveE n L) w) := by
  by_cases h0 : chkN n L = 0
  · obtain ⟨m, rfl, hm, hlm, hL⟩ := chkN_ok h0
    have HC := Go.Lib.hid (fun w h1 h2 => h0 ▸ rcheckN_any B A c (m : Int) L w h1 h2 hl)
    have HR := Go.Lib.hid (fun w h1 h2 => rrounds_any B A c m L w h1 h2 hm hlm hL)
    have hla := fin_last hL
    have hxl := (fin_len m L).1
    obtain ⟨hv1, hv2⟩ := solve_vals h0
    by_cases hlast : (fin m L).last = -1
    · obtain ⟨e1, e2⟩ := hv1 hlast
      rw [e1, e2]
      clear hv1 hv2 e1 e2 h0
      have hlz : ¬ 0 ≤ (fin m L).last := by omega
      go_enter Try.func33, Try.ntmps33
      go_wp2_with fail
      refine (HC.out _ hA hB).mono ?_
      rintro e w1 ⟨rfl, hb1⟩
      have hA1 := hA.below (hb1.mono hB)
      have hs1 := hb1.size
      go_wp2_with fail
      refine (HR.out _ hA1 (by omega)).mono ?_
      rintro e w2 ⟨gx, gm, rfl, _, hox, _, hb2⟩
      have hs2 := hb2.size
      go_wp2
      go_ret2
      exact IntsE.of hxl hox hs1 (hb1.trans (hb2.mono hs1))
    · obtain ⟨e1, e2⟩ := hv2 hlast
      rw [e1, e2]
      clear hv1 hv2 e1 e2 h0
      have hlz : 0 ≤ (fin m L).last := by omega
      go_enter Try.func33, Try.ntmps33
      go_wp2_with fail
      refine (HC.out _ hA hB).mono ?_
      rintro e w1 ⟨rfl, hb1⟩
      have hA1 := hA.below (hb1.mono hB)
      have hs1 := hb1.size
      go_wp2_with fail
      refine (HR.out _ hA1 (by omega)).mono ?_
      rintro e w2 ⟨gx, gm, rfl, _, hox, _, hb2⟩
      have hs2 := hb2.size
      go_wp2
      go_ret2
      exact IntsE.none (hb1.trans (hb2.mono hs1))
  · have hne : (chkN n L != 0) = true := by simpa using h0
    have e1 : solveE n L = chkN n L := by simp [solveE, h0]
    rw [e1, solveR_nil (by rw [e1]; exact h0)]
    go_enter Try.func33, Try.ntmps33
    go_wp2_with fail
    refine (rcheckN_any B A c n L _ hA hB hl).mono ?_
    rintro e w1 ⟨rfl, hb1⟩
    go_wp2
    go_ret2
    exact IntsE.none hb1
end Go.Proofs.Ythannibclhidcaa
