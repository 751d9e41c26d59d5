/- Layer 10: the statements' own helpers t, is, alive. -/
import Derived.Test.YthannibclhidcaaFlexH
namespace Go.Proofs.Ythannibclhidcaa
set_option linter.unusedVariables false
set_option linter.unusedSimpArgs false
open Go.RowKit
attribute [local go_sem] max_fold min_fold

theorem At.built (w : World) (xs : List Value) (t : TypeId) : At (w.heap.size + 1) (w.alloc (.cells xs.toArray t)) (some ⟨w.heap.size, 0, none⟩) xs := by
  intro hn
  refine ⟨_, _, rfl, by omega, fun j v hj => ?_⟩
  have hk : (w.alloc (.cells xs.toArray t)).heap[w.heap.size]? = some (.cells xs.toArray t (0, 0)) := by
    unfold World.alloc
    exact Array.getElem?_push_size
  rw [blk_cell hk]
  simpa using hj
theorem At.next {B : Nat} {w : World} {A : Option Addr} {xs : List Value} (h : At B w A xs) (hB : B ≤ w.heap.size) (o : Obj) : At (w.heap.size + 1) (w.alloc o) A xs :=
  ((h.mono hB).below ((Below.refl _ _).alloc (Nat.le_refl _) o)).mono (by omega)
set_option maxHeartbeats 400000 in
theorem t_any (p q r : Int) (w : World) :
    Calls Try.prog 27 #[.int .i64 p, .int .i64 q, .int .i64 r] w fun e w' => e = .returned (.agg #[.int .i64 p, .int .i64 q, .int .i64 r]) ∧ Below w.heap.size w w' := by
  go_enter Try.func27, Try.ntmps27
  go_wp2
  exact bodyPost_ret (by simp [results, Try.results27, go_sem, *]) rfl ⟨rfl, (by repeat (first | exact Below.refl _ _ | with_reducible refine Below.alloc ?_ (by first | (simp; done) | (simp; omega) | omega) _ | with_reducible refine Below.setCell ?_ (by first | (simp; done) | (simp; omega) | omega) _ | with_reducible refine Below.drew ?_ | with_reducible refine Below.trans ?_ (Below.mono (by assumption) (by first | (simp; done) | (simp; omega) | omega))))⟩

set_option maxHeartbeats 1000000 in
theorem is_true (B : Nat) (A A2 : Option Addr) (c c2 n : Nat) (l : List Int) (w : World) (hn : l.length = n) (hl : n ≤ 1000000) (h1 : At B w A (ints l)) (h2 : At B w A2 (ints l)) :
    Calls Try.prog 28 #[.slice A n c, .int .i64 0, .slice A2 n c2] w fun e w' => e = .returned (.bool true) ∧ Below w.heap.size w w' := by
  have HN := Go.Lib.hid hn
  clear hn
  go_enter Try.func28, Try.ntmps28
  go_wp2
  go_loopw [7] (fun i wr => ∃ k : Nat, k ≤ n ∧ i = .int .i64 k ∧ Below w.heap.size w wr ∧ At B wr A (ints l) ∧ At B wr A2 (ints l)) (fun i wr => n - (intOf i).toNat)
  case atStart => exact ⟨0, by omega, rfl, Below.refl _ _, h1, h2⟩
  case round =>
    clear h1 h2
    obtain ⟨k, hk, rfl, hbr, h1, h2⟩ := hrel
    by_cases hlt : k < n
    · have hkl : k < l.length := by have := HN.out; omega
      obtain ⟨g, o, rfl, hg, a0⟩ := h1.int hkl
      obtain ⟨g', o', rfl, hg', b0⟩ := h2.int hkl
      have i1 : (k : Int) < (n : Int) := by omega
      have lg := World.block_lt_of_cell? _ _ a0
      have lg' := World.block_lt_of_cell? _ _ b0
      generalize l[k] = x at *
      go_wp2
      refine region_ext mixed (by kernel_rfl) ?_
      repeat (go_big_quiet_step (fail))
      refine wpQuiet_nil ?_
      intro w1 hb1
      go_wp2
      go_roundw
      case rel => exact ⟨k + 1, by omega, by go_num, hbr.trans (hb1.mono hbr.size), h1.ext hb1, h2.ext hb1⟩
      case measure => simp [intOf]; omega
    · have i1 : ¬ (k : Int) < (n : Int) := by omega
      go_wp2
      go_ret
      exact ⟨rfl, hbr⟩

theorem Share_is {L : List T3} {room : Int} {r : List Int} {e : Int} {n : Nat} (hn : L.length = n) (hr : shareR L room = r) (he : shareE L room = e) (hl : n ≤ 5000) (w : World) :
    Calls Try.prog 20 #[.slice (some ⟨w.heap.size, 0, none⟩) n n, .int .i64 room] (w.alloc (.cells (t3s L).toArray 39)) (IntsE r e (w.alloc (.cells (t3s L).toArray 39))) := by
  subst hn hr he
  exact Share_any (w.heap.size + 1) _ _ L room _ (At.built w _ _) (by simp) (by omega)
theorem Row_is {L : List T3} {gap room : Int} {r b : List Int} {e : Int} {n : Nat} (hn : L.length = n) (hr : rowR L gap room = r) (hb : rowB L gap room = b) (he : rowE L gap room = e) (hl : n ≤ 5000) (w : World) :
    Calls Try.prog 16 #[.slice (some ⟨w.heap.size, 0, none⟩) n n, .int .i64 gap, .int .i64 room] (w.alloc (.cells (t3s L).toArray 39)) (Int2E r b e (w.alloc (.cells (t3s L).toArray 39))) := by
  subst hn hr hb he
  exact Row_any (w.heap.size + 1) _ _ L gap room _ (At.built w _ _) (by simp) (by omega)

set_option maxHeartbeats 2000000 in
theorem alive_any (w : World) : Calls Try.prog 26 #[] w fun e w' => e = .returned (.bool true) ∧ Below w.heap.size w w' := by
  go_enter Try.func26, Try.ntmps26
  go_wp2_with fail
  refine (t_any _ _ _ _).mono ?_
  rintro e w1 ⟨rfl, hb1⟩
  have hs1 := hb1.size
  go_wp2_with fail
  refine (t_any _ _ _ _).mono ?_
  rintro e w2 ⟨rfl, hb2⟩
  have hs2 := hb2.size
  go_wp2_with fail
  refine (Share_is (L := [⟨2, 0, 1⟩, ⟨3, 0, 1⟩]) (r := [6, 6]) (e := 0) (n := 2) rfl (by decide +kernel) (by decide +kernel) (by decide) w2).mono ?_
  rintro e w3 ⟨A3, c3, rfl, hown3, hb3⟩
  have hs3 := hb3.size
  have hB3 : Below w.heap.size w w3 := hb1.trans ((hb2.mono hs1).trans ((((Below.refl w.heap.size w2).alloc (by omega) _)).trans (hb3.mono (by simp; omega))))
  clear hb1 hb2 hb3
  have hown3' := At.of_own hown3
  go_wp2_with fail
  refine (t_any _ _ _ _).mono ?_
  rintro e w4 ⟨rfl, hb4⟩
  have hs4 := hb4.size
  go_wp2_with fail
  refine (t_any _ _ _ _).mono ?_
  rintro e w5 ⟨rfl, hb5⟩
  have hs5 := hb5.size
  have h35 := hb4.trans (hb5.mono hs4)
  go_wp2_with fail
  refine (Row_is (L := [⟨1, 0, 1⟩, ⟨1, 0, 1⟩]) (r := [4, 4]) (b := [0, 6]) (e := 0) (n := 2) rfl (by decide +kernel) (by decide +kernel) (by decide +kernel) (by decide) w5).mono ?_
  rintro e w6 ⟨A6, c6, A7, c7, rfl, hown6, hown7, _, hb6⟩
  have hs6 := hb6.size
  have hB36 : Below w3.heap.size w3 w6 := h35.trans ((((Below.refl w3.heap.size w5).alloc (by omega) _)).trans (hb6.mono (by simp; omega)))
  have hA3 := hown3'.below hB36
  have hA6 := At.of_own hown6
  have hA7 := At.of_own hown7
  have hs36 := hB36.size
  have hs03 := hB3.size
  have hB6 := hB3.trans (hB36.mono hs03)
  clear hown3 hown3' hown6 hown7 hb4 hb5 hb6 h35 hB3 hB36
  go_wp2_with fail
  refine (is_true (w6.heap.size + 1) _ _ _ _ 2 [6, 6] _ rfl (by omega) (hA3.next hs36 _) (At.built w6 (ints [6, 6]) _)).mono ?_
  rintro e w7 ⟨rfl, hb7⟩
  have h67 : Below w6.heap.size w6 w7 := ((Below.refl _ _).alloc (Nat.le_refl _) _).trans (hb7.mono (by simp))
  have hs7 := h67.size
  go_wp2_with fail
  refine (is_true (w7.heap.size + 1) _ _ _ _ 2 [4, 4] _ rfl (by omega) ((hA6.below h67).next hs7 _) (At.built w7 (ints [4, 4]) _)).mono ?_
  rintro e w8 ⟨rfl, hb8⟩
  have h78 : Below w7.heap.size w7 w8 := ((Below.refl _ _).alloc (Nat.le_refl _) _).trans (hb8.mono (by simp))
  have h68 := h67.trans (h78.mono hs7)
  have hs8 := h68.size
  go_wp2_with fail
  refine (is_true (w8.heap.size + 1) _ _ _ _ 2 [0, 6] _ rfl (by omega) ((hA7.below h68).next hs8 _) (At.built w8 (ints [0, 6]) _)).mono ?_
  rintro e w9 ⟨rfl, hb9⟩
  have h89 : Below w8.heap.size w8 w9 := ((Below.refl _ _).alloc (Nat.le_refl _) _).trans (hb9.mono (by simp))
  have h69 := h68.trans (h89.mono hs8)
  go_wp2
  go_ret
  exact ⟨rfl, hB6.trans (h69.mono (by omega))⟩
end Go.Proofs.Ythannibclhidcaa
