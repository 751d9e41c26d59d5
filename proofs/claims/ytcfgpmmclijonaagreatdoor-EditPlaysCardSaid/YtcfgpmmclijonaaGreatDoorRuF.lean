/- Layer 3: cells, cuts, the piece at a place: both sides. (Printed by gen_f.py.) -/
import Derived.Test.YtcfgpmmclijonaaGreatDoorRuE
import Derived.Test.YtcfgpmmclijonaaGreatDoorRuGo
namespace Go.Proofs.YtcfgpmmclijonaaGreatDoor
set_option linter.unusedVariables false
set_option linter.unusedSimpArgs false
set_option maxRecDepth 100000
open Go.RowKit Go.Lib

theorem At.pr {B : Nat} {w : World} {A : Option Addr} {P : List (Nat × Nat)} (h : At B w A (prw 0 P)) {k : Nat} (hk : k < P.length) : ∃ g o, A = some ⟨g, o, none⟩ ∧ g < B ∧ w.cell? ⟨g, o + k * 3, none⟩ = some (.int .i64 (off P k : Int)) ∧ w.cell? ⟨g, o + k * 3 + 1, none⟩ = some (.int .i64 (off P (k + 1) : Int)) ∧ w.cell? ⟨g, o + k * 3 + 2, none⟩ = some (.int .i32 (P[k].2 : Int)) := by
  obtain ⟨g, o, hA, hg, hc⟩ := h (by rw [prw_len]; omega)
  obtain ⟨h0, h1, h2⟩ := prw_at P 0 k hk
  rw [Nat.zero_add] at h0 h1
  exact ⟨g, o, hA, hg, hc _ _ h0, by rw [Nat.add_assoc]; exact hc _ _ h1, by rw [Nat.add_assoc]; exact hc _ _ h2⟩
theorem At.qr {B : Nat} {w : World} {A : Option Addr} {P : List (Nat × Nat)} (h : At B w A (qrw 0 P)) {k : Nat} (hk : k < P.length) : ∃ g o, A = some ⟨g, o, none⟩ ∧ g < B ∧ w.cell? ⟨g, o + k * 4, none⟩ = some (.int .i64 (off P k : Int)) ∧ w.cell? ⟨g, o + k * 4 + 1, none⟩ = some (.int .i64 (off P (k + 1) : Int)) ∧ w.cell? ⟨g, o + k * 4 + 2, none⟩ = some (.int .i32 (P[k].2 : Int)) ∧ w.cell? ⟨g, o + k * 4 + 3, none⟩ = some (.int .i64 (wid P[k].2 : Int)) := by
  obtain ⟨g, o, hA, hg, hc⟩ := h (by rw [qrw_len]; omega)
  obtain ⟨h0, h1, h2, h3⟩ := qrw_at P 0 k hk
  rw [Nat.zero_add] at h0 h1
  exact ⟨g, o, hA, hg, hc _ _ h0, by rw [Nat.add_assoc]; exact hc _ _ h1, by rw [Nat.add_assoc]; exact hc _ _ h2, by rw [Nat.add_assoc]; exact hc _ _ h3⟩
set_option maxHeartbeats 4000000
set_option maxRecDepth 100000
theorem total_any (B : Nat) (P : List (Nat × Nat)) (A : Option Addr) (c : Nat) (w : World) (hA : At B w A (prw 0 P)) (hB : B ≤ w.heap.size) (hl : P.length ≤ 1000000000000000000) :
    Calls Tryz.prog 80 #[.slice A P.length c] w fun e w' => e = .returned (.int .i64 (total P : Int)) ∧ Below w.heap.size w w' := by
  have HA := hid hA
  have HPL := hid hl
  clear hA
  go_enter Tryz.func80, Tryz.ntmps80
  go_wp2
  go_loopg [3, 8] P.length (fun gh v i wr => ∃ k T : Nat, v = .int .i64 (T : Int) ∧ i = .int .i64 k ∧ Hid (T = toC P k) ∧ (T : Int) ≤ 2000000000000000000 ∧ k ≤ P.length ∧ P.length - k ≤ gh ∧ Below w.heap.size w wr)
  case atStart => exact ⟨0, 0, rfl, rfl, hid (toC_zero P).symm, by omega, by omega, by omega, Below.refl _ _⟩
  case round =>
    obtain ⟨k, T, rfl, rfl, HK, hTb, hk, hgh, hbr⟩ := hrel
    have hsr := hbr.size
    by_cases hlt : k < P.length
    · have hli : (k : Int) < (P.length : Int) := by omega
      have hkb : (k : Int) ≤ 1000000000000000000 := by have := HPL.out; omega
      obtain ⟨g, o, rfl, hg, c0, c1, c2⟩ := (HA.out.below (hbr.mono hB)).pr hlt
      obtain ⟨r, hr⟩ : ∃ r, P[k].2 = r := ⟨_, rfl⟩
      obtain ⟨x, hx⟩ : ∃ x, off P k = x := ⟨_, rfl⟩
      obtain ⟨y, hy⟩ : ∃ y, off P (k + 1) = y := ⟨_, rfl⟩
      obtain ⟨d, hd⟩ : ∃ d, wid (r : Int) = d := ⟨_, rfl⟩
      have hs := toC_succ P k hlt
      have hw := wid_le (r : Int)
      have hle := toC_le P (k + 1)
      rw [hr, hd, ← HK.out] at hs
      rw [hd] at hw
      rw [hs] at hle
      have hTb2 : ((T + d : Nat) : Int) ≤ 2000000000000000000 := by have := HPL.out; omega
      have HT := hid hs.symm
      rw [hx] at c0
      rw [hy] at c1
      rw [hr] at c2
      clear hs hx hy hr hle
      have hC := fun z => pcells_any x y r z
      rw [hd] at hC
      clear hd
      go_wp2_with (go_at_call 97; refine (hC _).mono ?_; rintro e w1 ⟨rfl, hb1⟩)
      have hb2 : Below w.heap.size w w1 := (hbr.alloc (by omega) _).trans (hb1.mono (by simp; omega))
      go_roundg (P.length - (k + 1))
      case measure => omega
      case rel => exact ⟨k + 1, T + d, by go_num, by go_num, HT, hTb2, by omega, by omega, hb2⟩
    · have hkl : k = P.length := by omega
      go_wp2
      go_ret
      refine ⟨ret_int ?_, hbr⟩
      rw [← toC_all, ← hkl, HK.out]
theorem Cells_any (s : ByteArray) (w : World) (hs : s.size ≤ 1000000000000000000) :
    Calls Tryz.prog 63 #[.string s] w (Out (Great s.size) fun e w' => e = .returned (.tuple #[.int .i64 (total (pcs s.data.toList) : Int), .int .i64 ((pcs s.data.toList).length : Int)]) ∧ Below w.heap.size w w') := by
  have hlen := pcs_len s.data.toList
  have hl2 : s.data.toList.length = s.size := by simp
  have CP := pieces_any s w hs
  generalize pcs s.data.toList = P at *
  go_enter Tryz.func63, Tryz.ntmps63
  go_wp2_with fail
  refine CP.mono ?_
  rintro e w1 (⟨A, c, rfl, hown, hb1⟩ | ⟨rfl, hG⟩)
  rotate_left
  · exact LetsOut.intro ⟨#[], []⟩ w (Or.inr ⟨rfl, hG⟩)
  have hC := total_any w1.heap.size _ A c w1 (At.of_own hown) (Nat.le_refl _) (by omega)
  clear hown
  go_wp2_with fail
  refine hC.mono ?_
  rintro e w2 ⟨rfl, hb2⟩
  go_wp2
  refine bodyPost_ret (v := .tuple #[.int .i64 (total P : Int), .int .i64 (P.length : Int)]) (by simp [results, Tryz.results63, go_sem]) rfl ?_
  exact .inl ⟨rfl, hb1.trans (hb2.mono hb1.size)⟩
theorem rCells_any (s : ByteArray) (w : World) (hs : s.size ≤ 1000000000000000000) :
    Calls Tryz.prog 66 #[.string s] w (Out (Great s.size) fun e w' => e = .returned (.tuple #[.int .i64 (total (pcs s.data.toList) : Int), .int .i64 ((pcs s.data.toList).length : Int)]) ∧ Below w.heap.size w w') := by
  have hlen := pcs_len s.data.toList
  have hl2 : s.data.toList.length = s.size := by simp
  have CP := rpieces_any s w hs
  generalize pcs s.data.toList = P at *
  go_enter Tryz.func66, Tryz.ntmps66
  go_wp2_with fail
  refine CP.mono ?_
  rintro e w1 (⟨A, c, rfl, hown, hb1⟩ | ⟨rfl, hG⟩)
  rotate_left
  · exact LetsOut.intro ⟨#[], []⟩ w (Or.inr ⟨rfl, hG⟩)
  have HA := hid (At.of_own hown)
  have hs1 := hb1.size
  have HPL : Hid (P.length ≤ 1000000000000000000) := hid (by omega)
  clear hown
  go_wp2
  go_loopg [5, 6] P.length (fun gh v i wr => ∃ k T : Nat, v = .int .i64 (T : Int) ∧ i = .int .i64 k ∧ Hid (T = toC P k) ∧ (T : Int) ≤ 2000000000000000000 ∧ k ≤ P.length ∧ P.length - k ≤ gh ∧ Below w1.heap.size w1 wr)
  case atStart => exact ⟨0, 0, rfl, rfl, hid (toC_zero P).symm, by omega, by omega, by omega, Below.refl _ _⟩
  case round =>
    obtain ⟨k, T, rfl, rfl, HK, hTb, hk, hgh, hbr⟩ := hrel
    have hsr := hbr.size
    by_cases hlt : k < P.length
    · have hli : (k : Int) < (P.length : Int) := by omega
      have hkb : (k : Int) ≤ 1000000000000000000 := by have := HPL.out; omega
      obtain ⟨g, o, rfl, hg, c0, c1, c2, c3⟩ := (HA.out.below hbr).qr hlt
      obtain ⟨r, hr⟩ : ∃ r, P[k].2 = r := ⟨_, rfl⟩
      obtain ⟨x, hx⟩ : ∃ x, off P k = x := ⟨_, rfl⟩
      obtain ⟨y, hy⟩ : ∃ y, off P (k + 1) = y := ⟨_, rfl⟩
      rw [hr] at c3
      obtain ⟨d, hd⟩ : ∃ d, wid (r : Int) = d := ⟨_, rfl⟩
      have hs := toC_succ P k hlt
      have hw := wid_le (r : Int)
      have hle := toC_le P (k + 1)
      rw [hr, hd, ← HK.out] at hs
      rw [hd] at hw
      rw [hs] at hle
      have hTb2 : ((T + d : Nat) : Int) ≤ 2000000000000000000 := by have := HPL.out; omega
      have HT := hid hs.symm
      rw [hx] at c0
      rw [hy] at c1
      rw [hr] at c2
      clear hs hx hy hr hle
      rw [hd] at c3
      clear hd
      go_wp2
      go_roundg (P.length - (k + 1))
      case measure => omega
      case rel => exact ⟨k + 1, T + d, by go_num, by go_num, HT, hTb2, by omega, by omega, hbr⟩
    · have hkl : k = P.length := by omega
      have he : T = total P := by rw [← toC_all, ← hkl, HK.out]
      subst he
      have hli : ¬ ((k : Int) < (P.length : Int)) := by omega
      go_wp2
      refine bodyPost_ret (v := .tuple #[.int .i64 (total P : Int), .int .i64 (P.length : Int)]) (by simp [results, Tryz.results66, go_sem]) rfl ?_
      exact .inl ⟨rfl, hb1.trans (hbr.mono hs1)⟩
theorem fits_all (s : ByteArray) (c : Int) (h : fit (pcs s.data.toList) c = (pcs s.data.toList).length) : fits s c = s := by
  unfold fits
  have hs := pcs_sum s.data.toList
  have e : sumw (pcs s.data.toList) = s.size := by unfold sumw; rw [hs]; simp
  rw [h, off_all, e]
  exact ByteArray.extract_zero_size

end Go.Proofs.YtcfgpmmclijonaaGreatDoor
