/- Layer 3: the reference's first line of a text. -/
import Derived.Test.YtoelmcmdiamnnaaDoorRuI2
import Derived.Test.YtoelmcmdiamnnaaDoorRuLn
namespace Go.Proofs.YtoelmcmdiamnnaaDoor
set_option linter.unusedVariables false
set_option linter.unusedSimpArgs false
set_option maxRecDepth 100000
open Go.RowKit Go.Lib

theorem lnF_step (c : Int) (P : List (Nat × Nat)) {k n bl : Nat} (hk : k < P.length) : lnF c k n bl (P.drop k) = if 1 ≤ k ∧ c < ((n + wid P[k].2 : Nat) : Int) then (if P[k].2 ≠ 32 ∧ 0 < bl then bl else k) else lnF c (k + 1) (n + wid P[k].2) (if P[k].2 = 32 then k + 1 else bl) (P.drop (k + 1)) := by
  rw [List.drop_eq_getElem_cons hk]
  rfl
theorem lnF_end (c : Int) (P : List (Nat × Nat)) (n bl : Nat) : lnF c P.length n bl (P.drop P.length) = P.length := by
  rw [List.drop_length]
  rfl
set_option maxHeartbeats 4000000
set_option maxRecDepth 100000
theorem rline_any (s : ByteArray) (c : Int) (hc : 1 ≤ c) (hz : 0 < s.size) (w : World) (hs : s.size ≤ 4000000) :
    Calls Tryd.prog 65 #[.string s, .int .i64 c] w fun e w' => e = .returned (.int .i64 (cutAt c s.data.toList : Int)) ∧ Below w.heap.size w w' := by
  have hlen := pcs_len s.data.toList
  have hl2 : s.data.toList.length = s.size := by simp
  have hne : s.data.toList ≠ [] := fun h => by rw [h] at hl2; simp at hl2; omega
  have hP0 := List.length_pos_iff.2 (pcs_ne_nil hne)
  have hpos := pcs_pos s.data.toList
  have hsm : sumw (pcs s.data.toList) = s.size := by unfold sumw; rw [pcs_sum]; exact hl2
  have hcut : cutAt c s.data.toList = off (pcs s.data.toList) (line c (pcs s.data.toList)) := rfl
  have CP := fun x => small (rpieces_any s x (by omega)) hs
  generalize cutAt c s.data.toList = Z at *
  generalize pcs s.data.toList = P at *
  have hPI : (P.length : Int) ≤ 4000000 := by omega
  have HL0 : Hid (line c P = lnF c 0 0 0 (P.drop 0)) := hid rfl
  have HP := hid hpos
  have HC := hid hcut
  have HSM := hid hsm
  clear hlen hl2 hne hpos hcut hsm
  go_enter Tryd.func65, Tryd.ntmps65
  go_wp2_with fail
  refine (CP _).mono ?_
  rintro e w1 ⟨A, cc, rfl, hown, hb1⟩
  have HA := hid (At.of_own hown)
  have hs1 := hb1.size
  clear hown CP
  have hst := lnF_step c P (k := 0) (n := 0) (bl := 0) hP0
  rw [if_neg (by omega)] at hst
  obtain ⟨g, o, rfl, hg, c0, c1, c2, c3⟩ := HA.out.qr hP0
  have ho0 := off_zero P
  have ho1 := len_le_off P HP.out 1 (by omega)
  have hw0 := wid_le ((P[0]'hP0).2 : Int)
  obtain ⟨r, hr⟩ : ∃ r, (P[0]'hP0).2 = r := ⟨_, rfl⟩
  obtain ⟨y, hy⟩ : ∃ y, off P 1 = y := ⟨_, rfl⟩
  obtain ⟨d, hd⟩ : ∃ d, wid (r : Int) = d := ⟨_, rfl⟩
  rw [hr] at hst c2 c3 hw0
  rw [hd] at hst c3 hw0
  rw [show (0 + 1 : Nat) = 1 from rfl, hy] at c1
  rw [hy] at ho1
  rw [ho0] at c0
  simp only [Nat.zero_mul, Nat.add_zero] at c0 c1 c2 c3
  have hP1 : (1 : Int) ≤ (P.length : Int) := by omega
  have h0P : (0 : Int) < (P.length : Int) := by omega
  have HST := hid (HL0.out.trans hst)
  have HY := hid hy
  have hyle : (y : Int) ≤ (s.size : Int) := by have := off_le_sum P 1; rw [hy, HSM.out] at this; omega
  clear hst ho0 hr hd hy
  by_cases h32 : r = 32
  · have h32' : (r : Int) = 32 := by omega
    have hst2 := HST.out
    rw [if_pos h32, Nat.zero_add, Nat.zero_add] at hst2
    have HS2 := hid hst2
    clear hst2 HST
    go_wp2
    go_loopg [6, 7, 8] P.length (fun gh v6 v7 v8 wr => ∃ k n bl b : Nat, v6 = .int .i64 n ∧ v7 = .int .i64 b ∧ v8 = .int .i64 k ∧ 1 ≤ k ∧ k ≤ P.length ∧ P.length - k ≤ gh ∧ n ≤ 2 * k ∧ bl ≤ k ∧ Hid (off P bl = b) ∧ Hid (line c P = lnF c k n bl (P.drop k)) ∧ Below w1.heap.size w1 wr)
    case atStart => exact ⟨1, d, 1, y, rfl, rfl, rfl, by omega, by omega, by omega, by omega, by omega, HY, HS2, Below.refl _ _⟩
    case round =>
      obtain ⟨k, n, bl, b, rfl, rfl, rfl, hk1, hk, hgh, hn, hbl, HB, HN, hbr⟩ := hrel
      have hbz := len_le_off P HP.out bl (by omega)
      have hbs := off_le_sum P bl
      rw [HB.out, HSM.out] at hbs
      rw [HB.out] at hbz
      have hb0 : bl = 0 → b = 0 := fun h => by rw [← HB.out, h, off_zero]
      by_cases hlt : k < P.length
      · have hli : (k : Int) < (P.length : Int) := by omega
        have hst := lnF_step c P (k := k) (n := n) (bl := bl) hlt
        obtain ⟨g', o', hA', hg', c0, c1, c2, c3⟩ := (HA.out.below hbr).qr hlt
        obtain ⟨rfl, rfl⟩ : g = g' ∧ o = o' := by
          injection hA' with e
          injection e with e1 e2
          exact ⟨e1, e2⟩
        have hw0 := wid_le ((P[k]'hlt).2 : Int)
        obtain ⟨r', hr⟩ : ∃ r, (P[k]'hlt).2 = r := ⟨_, rfl⟩
        obtain ⟨x', hx⟩ : ∃ x, off P k = x := ⟨_, rfl⟩
        obtain ⟨y', hy⟩ : ∃ y, off P (k + 1) = y := ⟨_, rfl⟩
        obtain ⟨d', hd⟩ : ∃ d, wid (r' : Int) = d := ⟨_, rfl⟩
        rw [hr] at hst c2 c3 hw0
        rw [hd] at hst c3 hw0
        rw [hx] at c0
        rw [hy] at c1
        have HX := hid hx
        have HY' := hid hy
        clear hr hd hx hy hA' hg'
        by_cases hgt : c < ((n + d' : Nat) : Int)
        · rw [if_pos ⟨hk1, hgt⟩] at hst
          have hgt' : c < (n : Int) + (d' : Int) := by omega
          by_cases h32 : r' = 32
          · have h32' : (r' : Int) = 32 := by omega
            have hz : Z = x' := by rw [HC.out, HN.out, hst, if_neg (by simp [h32]), HX.out]
            have HZ := hid hz
            clear hz hst
            go_wp2
            go_ret
            exact ⟨ret_int (by rw [HZ.out]), hb1.trans (hbr.mono hs1)⟩
          · have h32' : ¬ ((r' : Int) = 32) := by omega
            have hbn : ((r' : Int) != 32) = true := by simpa using h32'
            have hbe : ((r' : Int) == 32) = false := by simpa using h32'
            by_cases hbb : bl = 0
            · have hb00 := hb0 hbb
              have hz : Z = x' := by rw [HC.out, HN.out, hst, if_neg (by omega), HX.out]
              have HZ := hid hz
              subst hb00
              clear hz hst hb0
              go_wp2
              go_ret
              exact ⟨ret_int (by rw [HZ.out]), hb1.trans (hbr.mono hs1)⟩
            · have hz : Z = b := by rw [HC.out, HN.out, hst, if_pos ⟨h32, by omega⟩, HB.out]
              have HZ := hid hz
              have hbp : (0 : Int) < (b : Int) := by omega
              clear hz hst hb0
              go_wp2
              go_ret
              exact ⟨ret_int (by rw [HZ.out]), hb1.trans (hbr.mono hs1)⟩
        · rw [if_neg (fun h => hgt h.2)] at hst
          have hgt' : ¬ (c < (n : Int) + (d' : Int)) := by omega
          by_cases h32 : r' = 32
          · have h32' : (r' : Int) = 32 := by omega
            rw [if_pos h32] at hst
            have HN2 := hid (HN.out.trans hst)
            clear hst hb0
            go_wp2
            go_roundg (P.length - (k + 1))
            case measure => omega
            case rel => exact ⟨k + 1, n + d', k + 1, y', by go_num, rfl, by go_num, by omega, by omega, by omega, by omega, by omega, HY', HN2, hbr⟩
          · have h32' : ¬ ((r' : Int) = 32) := by omega
            have hbn : ((r' : Int) != 32) = true := by simpa using h32'
            have hbe : ((r' : Int) == 32) = false := by simpa using h32'
            rw [if_neg h32] at hst
            have HN2 := hid (HN.out.trans hst)
            clear hst hb0
            go_wp2
            go_roundg (P.length - (k + 1))
            case measure => omega
            case rel => exact ⟨k + 1, n + d', bl, b, by go_num, rfl, by go_num, by omega, by omega, by omega, by omega, by omega, HB, HN2, hbr⟩
      · have hli : ¬ ((k : Int) < (P.length : Int)) := by omega
        have hkl : k = P.length := by omega
        have hz : Z = s.size := by rw [HC.out, HN.out, hkl, lnF_end, off_all, HSM.out]
        have HZ := hid hz
        clear hz
        go_wp2
        go_ret
        exact ⟨ret_int (by rw [HZ.out]), hb1.trans (hbr.mono hs1)⟩
  · have h32' : ¬ ((r : Int) = 32) := by omega
    have hbe0 : ((r : Int) == 32) = false := by simpa using h32'
    have hst2 := HST.out
    rw [if_neg h32, Nat.zero_add, Nat.zero_add] at hst2
    have HS2 := hid hst2
    have H00 : Hid (off P 0 = 0) := hid (off_zero P)
    clear hst2 HST
    go_wp2
    go_loopg [6, 7, 8] P.length (fun gh v6 v7 v8 wr => ∃ k n bl b : Nat, v6 = .int .i64 n ∧ v7 = .int .i64 b ∧ v8 = .int .i64 k ∧ 1 ≤ k ∧ k ≤ P.length ∧ P.length - k ≤ gh ∧ n ≤ 2 * k ∧ bl ≤ k ∧ Hid (off P bl = b) ∧ Hid (line c P = lnF c k n bl (P.drop k)) ∧ Below w1.heap.size w1 wr)
    case atStart => exact ⟨1, d, 0, 0, rfl, rfl, rfl, by omega, by omega, by omega, by omega, by omega, H00, HS2, Below.refl _ _⟩
    case round =>
      obtain ⟨k, n, bl, b, rfl, rfl, rfl, hk1, hk, hgh, hn, hbl, HB, HN, hbr⟩ := hrel
      have hbz := len_le_off P HP.out bl (by omega)
      have hbs := off_le_sum P bl
      rw [HB.out, HSM.out] at hbs
      rw [HB.out] at hbz
      have hb0 : bl = 0 → b = 0 := fun h => by rw [← HB.out, h, off_zero]
      by_cases hlt : k < P.length
      · have hli : (k : Int) < (P.length : Int) := by omega
        have hst := lnF_step c P (k := k) (n := n) (bl := bl) hlt
        obtain ⟨g', o', hA', hg', c0, c1, c2, c3⟩ := (HA.out.below hbr).qr hlt
        obtain ⟨rfl, rfl⟩ : g = g' ∧ o = o' := by
          injection hA' with e
          injection e with e1 e2
          exact ⟨e1, e2⟩
        have hw0 := wid_le ((P[k]'hlt).2 : Int)
        obtain ⟨r', hr⟩ : ∃ r, (P[k]'hlt).2 = r := ⟨_, rfl⟩
        obtain ⟨x', hx⟩ : ∃ x, off P k = x := ⟨_, rfl⟩
        obtain ⟨y', hy⟩ : ∃ y, off P (k + 1) = y := ⟨_, rfl⟩
        obtain ⟨d', hd⟩ : ∃ d, wid (r' : Int) = d := ⟨_, rfl⟩
        rw [hr] at hst c2 c3 hw0
        rw [hd] at hst c3 hw0
        rw [hx] at c0
        rw [hy] at c1
        have HX := hid hx
        have HY' := hid hy
        clear hr hd hx hy hA' hg'
        by_cases hgt : c < ((n + d' : Nat) : Int)
        · rw [if_pos ⟨hk1, hgt⟩] at hst
          have hgt' : c < (n : Int) + (d' : Int) := by omega
          by_cases h32 : r' = 32
          · have h32' : (r' : Int) = 32 := by omega
            have hz : Z = x' := by rw [HC.out, HN.out, hst, if_neg (by simp [h32]), HX.out]
            have HZ := hid hz
            clear hz hst
            go_wp2
            go_ret
            exact ⟨ret_int (by rw [HZ.out]), hb1.trans (hbr.mono hs1)⟩
          · have h32' : ¬ ((r' : Int) = 32) := by omega
            have hbn : ((r' : Int) != 32) = true := by simpa using h32'
            have hbe : ((r' : Int) == 32) = false := by simpa using h32'
            by_cases hbb : bl = 0
            · have hb00 := hb0 hbb
              have hz : Z = x' := by rw [HC.out, HN.out, hst, if_neg (by omega), HX.out]
              have HZ := hid hz
              subst hb00
              clear hz hst hb0
              go_wp2
              go_ret
              exact ⟨ret_int (by rw [HZ.out]), hb1.trans (hbr.mono hs1)⟩
            · have hz : Z = b := by rw [HC.out, HN.out, hst, if_pos ⟨h32, by omega⟩, HB.out]
              have HZ := hid hz
              have hbp : (0 : Int) < (b : Int) := by omega
              clear hz hst hb0
              go_wp2
              go_ret
              exact ⟨ret_int (by rw [HZ.out]), hb1.trans (hbr.mono hs1)⟩
        · rw [if_neg (fun h => hgt h.2)] at hst
          have hgt' : ¬ (c < (n : Int) + (d' : Int)) := by omega
          by_cases h32 : r' = 32
          · have h32' : (r' : Int) = 32 := by omega
            rw [if_pos h32] at hst
            have HN2 := hid (HN.out.trans hst)
            clear hst hb0
            go_wp2
            go_roundg (P.length - (k + 1))
            case measure => omega
            case rel => exact ⟨k + 1, n + d', k + 1, y', by go_num, rfl, by go_num, by omega, by omega, by omega, by omega, by omega, HY', HN2, hbr⟩
          · have h32' : ¬ ((r' : Int) = 32) := by omega
            have hbn : ((r' : Int) != 32) = true := by simpa using h32'
            have hbe : ((r' : Int) == 32) = false := by simpa using h32'
            rw [if_neg h32] at hst
            have HN2 := hid (HN.out.trans hst)
            clear hst hb0
            go_wp2
            go_roundg (P.length - (k + 1))
            case measure => omega
            case rel => exact ⟨k + 1, n + d', bl, b, by go_num, rfl, by go_num, by omega, by omega, by omega, by omega, by omega, HB, HN2, hbr⟩
      · have hli : ¬ ((k : Int) < (P.length : Int)) := by omega
        have hkl : k = P.length := by omega
        have hz : Z = s.size := by rw [HC.out, HN.out, hkl, lnF_end, off_all, HSM.out]
        have HZ := hid hz
        clear hz
        go_wp2
        go_ret
        exact ⟨ret_int (by rw [HZ.out]), hb1.trans (hbr.mono hs1)⟩
end Go.Proofs.YtoelmcmdiamnnaaDoor
