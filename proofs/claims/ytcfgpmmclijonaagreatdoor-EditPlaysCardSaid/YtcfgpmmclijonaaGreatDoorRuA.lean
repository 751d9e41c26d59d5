/- Layer 3: kinds of runes and their cells, both sides. -/
import Derived.Test.YtcfgpmmclijonaaGreatDoorProg
import Derived.Test.YtcfgpmmclijonaaGreatDoorRuRow
import Derived.Test.YtcfgpmmclijonaaGreatDoorRuRoom
import Derived.Test.YtcfgpmmclijonaaGreatDoorBaseMono
import Derived.Deep.LoopGhost
namespace Go.Proofs.YtcfgpmmclijonaaGreatDoor
set_option linter.unusedVariables false
set_option linter.unusedSimpArgs false
set_option maxRecDepth 100000
open Go.RowKit Go.Lib

theorem ctl_cases (r : Int) : (r < 0 ∧ isCtl r = false) ∨ (0 ≤ r ∧ r < 32 ∧ isCtl r = true) ∨ (32 ≤ r ∧ r < 127 ∧ isCtl r = false) ∨ (127 ≤ r ∧ r ≤ 159 ∧ isCtl r = true) ∨ (159 < r ∧ isCtl r = false) := by
  unfold isCtl
  by_cases h1 : r < 0
  · left; simp; omega
  by_cases h2 : r < 32
  · right; left; simp; omega
  by_cases h3 : r < 127
  · right; right; left; simp; omega
  by_cases h4 : r ≤ 159
  · right; right; right; left; simp; omega
  · right; right; right; right; simp; omega
theorem ok_cases (r : Int) : (r < 0 ∧ okRune r = false) ∨ (0 ≤ r ∧ r < 55296 ∧ okRune r = true) ∨ (55296 ≤ r ∧ r ≤ 57343 ∧ okRune r = false) ∨ (57343 < r ∧ r ≤ 1114111 ∧ okRune r = true) ∨ (1114111 < r ∧ okRune r = false) := by
  unfold okRune
  by_cases h1 : r < 0
  · left; simp; omega
  by_cases h2 : r < 55296
  · right; left; simp; omega
  by_cases h3 : r ≤ 57343
  · right; right; left; simp; omega
  by_cases h4 : r ≤ 1114111
  · right; right; right; left; simp; omega
  · right; right; right; right; simp; omega
theorem mixed : Tryz.prog.follows .mixedOrders = true := by kernel_rfl
set_option maxHeartbeats 2000000 in
theorem ctl_any (r : Int) (w : World) : Calls Tryz.prog 82 #[.int .i32 r] w fun e w' => e = .returned (.bool (isCtl r)) ∧ w = w' := by
  rcases ctl_cases r with ⟨h1, hc⟩ | ⟨h1, h2, hc⟩ | ⟨h1, h2, hc⟩ | ⟨h1, h2, hc⟩ | ⟨h1, hc⟩
  all_goals
    rw [hc]
    clear hc
    (try have g0 : 0 ≤ r := by omega)
    (try have g1 : 32 ≤ r := by omega)
    (try have g2 : 127 ≤ r := by omega)
    (try have g3 : r < 32 := by omega)
    (try have g4 : r < 127 := by omega)
    go_enter Tryz.func82, Tryz.ntmps82
    go_wp2
    go_ret
    refine ⟨ret_bool ?_, rfl⟩
    (first | (simp; done) | (simp; omega))
set_option maxHeartbeats 2000000 in
theorem rctl_any (r : Int) (w : World) : Calls Tryz.prog 92 #[.int .i32 r] w fun e w' => e = .returned (.bool (isCtl r)) ∧ w = w' := by
  rcases ctl_cases r with ⟨h1, hc⟩ | ⟨h1, h2, hc⟩ | ⟨h1, h2, hc⟩ | ⟨h1, h2, hc⟩ | ⟨h1, hc⟩
  all_goals
    rw [hc]
    clear hc
    (try have g0 : 0 ≤ r := by omega)
    (try have g1 : 32 ≤ r := by omega)
    (try have g2 : 127 ≤ r := by omega)
    (try have g3 : r < 32 := by omega)
    (try have g4 : r < 127 := by omega)
    go_enter Tryz.func92, Tryz.ntmps92
    go_wp2
    go_ret
    refine ⟨ret_bool ?_, rfl⟩
    (first | (simp; done) | (simp; omega))
set_option maxHeartbeats 2000000 in
theorem okr_any (r : Int) (w : World) : Calls Tryz.prog 101 #[.int .i32 r] w fun e w' => e = .returned (.bool (okRune r)) ∧ w = w' := by
  rcases ok_cases r with ⟨h1, hc⟩ | ⟨h1, h2, hc⟩ | ⟨h1, h2, hc⟩ | ⟨h1, h2, hc⟩ | ⟨h1, hc⟩
  all_goals
    rw [hc]
    clear hc
    (try have g0 : 0 ≤ r := by omega)
    (try have g1 : 55296 ≤ r := by omega)
    (try have g2 : 57343 < r := by omega)
    (try have g3 : r < 55296 := by omega)
    go_enter Tryz.func101, Tryz.ntmps101
    go_wp2
    all_goals
      go_ret
      refine ⟨ret_bool ?_, rfl⟩
      (first | (simp; done) | (simp; omega) | omega)

/-! ### spans -/
def sps : List (Nat × Nat) → List Value
  | [] => []
  | p :: l => .int .i32 (p.1 : Int) :: .int .i32 (p.2 : Int) :: sps l
theorem sps_len (l : List (Nat × Nat)) : (sps l).length = l.length * 2 := by
  induction l with
  | nil => rfl
  | cons p l ih => simp only [sps, List.length_cons, ih]; omega
theorem sps_at : ∀ (l : List (Nat × Nat)) (k : Nat) (h : k < l.length), (sps l)[k * 2]? = some (.int .i32 (l[k].1 : Int)) ∧ (sps l)[k * 2 + 1]? = some (.int .i32 (l[k].2 : Int))
  | [], k, h => absurd h (by simp)
  | p :: l, 0, _ => by simp [sps]
  | p :: l, k + 1, h => by
    have := sps_at l k (by simpa using h)
    rw [show (k + 1) * 2 = k * 2 + 2 by omega]
    simpa [sps] using this
theorem At.sp {B : Nat} {w : World} {A : Option Addr} {l : List (Nat × Nat)} (h : At B w A (sps l)) {k : Nat} (hk : k < l.length) : ∃ g o, A = some ⟨g, o, none⟩ ∧ g < B ∧ w.cell? ⟨g, o + k * 2, none⟩ = some (.int .i32 (l[k].1 : Int)) ∧ w.cell? ⟨g, o + k * 2 + 1, none⟩ = some (.int .i32 (l[k].2 : Int)) := by
  obtain ⟨g, o, hA, hg, hc⟩ := h (by rw [sps_len]; omega)
  obtain ⟨h0, h1⟩ := sps_at l k hk
  exact ⟨g, o, hA, hg, hc _ _ h0, by rw [Nat.add_assoc]; exact hc _ _ h1⟩
theorem inSp_take (L : List (Nat × Nat)) (r : Int) (k : Nat) (h : k < L.length) : inSp (L.take (k + 1)) r = (inSp (L.take k) r || (decide ((L[k].1 : Int) ≤ r) && decide (r ≤ (L[k].2 : Int)))) := by
  unfold inSp
  rw [List.take_succ_eq_append_getElem h, List.any_append]
  simp
theorem inSp_yes (L : List (Nat × Nat)) (r : Int) (k : Nat) (h : inSp (L.take k) r = true) : inSp L r = true := by
  unfold inSp at *
  rw [List.any_eq_true] at *
  obtain ⟨p, hp, hq⟩ := h
  exact ⟨p, List.mem_of_mem_take hp, hq⟩
set_option maxHeartbeats 2000000 in
set_option maxRecDepth 100000 in
theorem in_any (B : Nat) (L : List (Nat × Nat)) (A : Option Addr) (c : Nat) (r : Int) (w : World) (hA : At B w A (sps L)) (hB : B ≤ w.heap.size) (hl : L.length ≤ 1000) :
    Calls Tryz.prog 98 #[.int .i32 r, .slice A L.length c] w fun e w' => e = .returned (.bool (inSp L r)) ∧ Below w.heap.size w w' := by
  have HA := hid hA
  clear hA
  go_enter Tryz.func98, Tryz.ntmps98
  go_wp2
  go_loopw [9] (fun i wr => ∃ k : Nat, k ≤ L.length ∧ i = .int .i64 k ∧ Hid (inSp (L.take k) r = false) ∧ Below w.heap.size w wr) (fun i _ => L.length - (intOf i).toNat)
  case atStart => exact ⟨0, by omega, rfl, hid rfl, Below.refl _ _⟩
  case round =>
    obtain ⟨k, hk, rfl, HP, hbr⟩ := hrel
    have hsr := hbr.size
    by_cases hlt : k < L.length
    · have hli : (k : Int) < (L.length : Int) := by omega
      obtain ⟨g, o, rfl, hg, c0, c1⟩ := (HA.out.below (hbr.mono hB)).sp hlt
      have hsu := inSp_take L r k hlt
      have hyes := inSp_yes L r (k + 1)
      have HS := hid hsu
      have HY := hid hyes
      clear hsu hyes
      generalize L[k].1 = x at *
      generalize L[k].2 = y at *
      by_cases h1 : (x : Int) ≤ r
      · by_cases h2 : r ≤ (y : Int)
        · go_wp2
          go_ret
          refine ⟨ret_bool ?_, (by repeat (first | exact Below.refl _ _ | with_reducible refine Below.alloc ?_ (by first | (simp; done) | (simp; omega) | omega) _ | with_reducible refine Below.setCell ?_ (by first | (simp; done) | (simp; omega) | omega) _ | with_reducible refine Below.drew ?_ | with_reducible refine Below.trans ?_ (Below.mono (by assumption) (by first | (simp; done) | (simp; omega) | omega))))⟩
          exact (HY.out (by rw [HS.out]; simp [h1, h2])).symm
        · go_wp2
          go_roundw
          case rel => exact ⟨k + 1, by omega, by go_num, hid (by rw [HS.out, HP.out]; simp [h1, h2]), (by repeat (first | exact Below.refl _ _ | with_reducible refine Below.alloc ?_ (by first | (simp; done) | (simp; omega) | omega) _ | with_reducible refine Below.setCell ?_ (by first | (simp; done) | (simp; omega) | omega) _ | with_reducible refine Below.drew ?_ | with_reducible refine Below.trans ?_ (Below.mono (by assumption) (by first | (simp; done) | (simp; omega) | omega))))⟩
          case measure => simp [intOf]; omega
      · go_wp2
        go_roundw
        case rel => exact ⟨k + 1, by omega, by go_num, hid (by rw [HS.out, HP.out]; simp [h1]), (by repeat (first | exact Below.refl _ _ | with_reducible refine Below.alloc ?_ (by first | (simp; done) | (simp; omega) | omega) _ | with_reducible refine Below.setCell ?_ (by first | (simp; done) | (simp; omega) | omega) _ | with_reducible refine Below.drew ?_ | with_reducible refine Below.trans ?_ (Below.mono (by assumption) (by first | (simp; done) | (simp; omega) | omega))))⟩
        case measure => simp [intOf]; omega
    · have hlt' : ¬ ((k : Int) < (L.length : Int)) := by omega
      have hkl : k = L.length := by omega
      go_wp2
      go_ret
      refine ⟨ret_bool ?_, hbr⟩
      have := HP.out
      rw [hkl, List.take_length] at this
      exact this.symm
end Go.Proofs.YtcfgpmmclijonaaGreatDoor
