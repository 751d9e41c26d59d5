/- Layer 3: the piece at a place: Next and Back, both sides. -/
import Derived.Test.YtcfgpmmclijonaaGreatDoorRuF
namespace Go.Proofs.YtcfgpmmclijonaaGreatDoor
set_option linter.unusedVariables false
set_option linter.unusedSimpArgs false
set_option maxRecDepth 100000
open Go.RowKit Go.Lib

def hixI (P : List (Nat × Nat)) (a : Int) : Int := match hix P a with | some i => (i : Int) | none => -1
theorem hix_lt {P : List (Nat × Nat)} {a : Int} {i : Nat} (h : hix P a = some i) : i < P.length := by
  unfold hix at h
  have := List.mem_of_find?_eq_some h
  simpa using this
theorem hix_inP {P : List (Nat × Nat)} {a : Int} {i : Nat} (h : hix P a = some i) : InP P a i = true := by
  unfold hix at h
  exact List.find?_some h
theorem inP_iff {P : List (Nat × Nat)} {a : Int} {i : Nat} : InP P a i = true ↔ (off P i : Int) ≤ a ∧ a < (off P (i + 1) : Int) := by
  unfold InP
  simp
theorem inP_no {P : List (Nat × Nat)} {a : Int} {i : Nat} (h : ¬ ((off P i : Int) ≤ a ∧ a < (off P (i + 1) : Int))) : InP P a i = false := by
  rw [Bool.eq_false_iff]
  exact fun e => h (inP_iff.1 e)
set_option maxHeartbeats 4000000
set_option maxRecDepth 100000
theorem holding_any (B : Nat) (P : List (Nat × Nat)) (A : Option Addr) (c : Nat) (a : Int) (w : World) (hA : At B w A (prw 0 P)) (hB : B ≤ w.heap.size) (hl : P.length ≤ 1000000000000000000) :
    Calls Tryz.prog 65 #[.slice A P.length c, .int .i64 a] w fun e w' => e = .returned (.int .i64 (hixI P a)) ∧ Below w.heap.size w w' := by
  have HA := hid hA
  have HS := hid (fun (i : Nat) (hi : i < P.length) (h : InP P a i = true) => show hixI P a = i by unfold hixI; rw [hix_some hi h])
  have HZ := hid (fun (h : ∀ i, i < P.length → InP P a i = false) => show hixI P a = -1 by unfold hixI; rw [hix_none h])
  generalize hixI P a = Z at *
  clear hA
  go_enter Tryz.func65, Tryz.ntmps65
  go_wp2
  go_loopg [9] P.length (fun gh i wr => ∃ k : Nat, i = .int .i64 k ∧ k ≤ P.length ∧ P.length - k ≤ gh ∧ Hid (∀ j, j < k → InP P a j = false) ∧ Below w.heap.size w wr)
  case atStart => exact ⟨0, rfl, by omega, by omega, hid (fun j hj => by omega), Below.refl _ _⟩
  case round =>
    obtain ⟨k, rfl, hk, hgh, HN, hbr⟩ := hrel
    have hsr := hbr.size
    by_cases hlt : k < P.length
    · have hli : (k : Int) < (P.length : Int) := by omega
      obtain ⟨g, o, rfl, hg, c0, c1, c2⟩ := (HA.out.below (hbr.mono hB)).pr hlt
      have HX := hid (fun (h1 : (off P k : Int) ≤ a) (h2 : a < (off P (k + 1) : Int)) => HS.out k hlt (inP_iff.2 ⟨h1, h2⟩))
      have HY := hid (fun (h : ¬ ((off P k : Int) ≤ a ∧ a < (off P (k + 1) : Int))) (j : Nat) (hj : j < k + 1) => show InP P a j = false by
        by_cases e : j = k
        · subst e
          exact inP_no h
        · exact HN.out j (by omega))
      obtain ⟨r, hr⟩ : ∃ r, P[k].2 = r := ⟨_, rfl⟩
      obtain ⟨x, hx⟩ : ∃ x, off P k = x := ⟨_, rfl⟩
      obtain ⟨y, hy⟩ : ∃ y, off P (k + 1) = y := ⟨_, rfl⟩
      rw [hr] at c2
      rw [hx] at c0 HX HY
      rw [hy] at c1 HX HY
      clear hr hx hy
      by_cases h1 : (x : Int) ≤ a
      · by_cases h2 : a < (y : Int)
        · have hz := HX.out h1 h2
          have HZZ := hid hz
          clear hz
          go_wp2
          go_ret
          exact ⟨ret_int HZZ.out.symm, hbr.alloc (by omega) _⟩
        · have HN2 := hid (HY.out (fun h => h2 h.2))
          go_wp2
          go_roundg (P.length - (k + 1))
          case measure => omega
          case rel => exact ⟨k + 1, by go_num, by omega, by omega, HN2, hbr.alloc (by omega) _⟩
      · have HN2 := hid (HY.out (fun h => h1 h.1))
        go_wp2
        go_roundg (P.length - (k + 1))
        case measure => omega
        case rel => exact ⟨k + 1, by go_num, by omega, by omega, HN2, hbr.alloc (by omega) _⟩
    · have hli : ¬ ((k : Int) < (P.length : Int)) := by omega
      have hz := HZ.out (fun i hi => HN.out i (by omega))
      have HZZ := hid hz
      clear hz
      go_wp2
      go_ret
      exact ⟨ret_int HZZ.out.symm, hbr⟩
/-- What a place says, or nothing. -/
def ansV (p : Nat × Bool) : Value := .tuple #[.int .i64 (p.1 : Int), .bool p.2]
theorem Next_any (s : ByteArray) (a : Int) (w : World) (hs : s.size ≤ 1000000000000000000) :
    Calls Tryz.prog 44 #[.string s, .int .i64 a] w (Out (Great s.size) fun e w' => e = .returned (ansV (nextE (pcs s.data.toList) a)) ∧ Below w.heap.size w w') := by
  have hlen := pcs_len s.data.toList
  have hl2 : s.data.toList.length = s.size := by simp
  have CP := fun x => pieces_any s x hs
  generalize pcs s.data.toList = P at *
  have hPL : P.length ≤ 1000000000000000000 := by omega
  have CH := fun (B : Nat) A c x h1 h2 => holding_any B P A c a x h1 h2 hPL
  unfold hixI at CH
  cases hh : hix P a with
  | none =>
    have he : nextE P a = (0, false) := by unfold nextE; rw [hh]
    rw [he]
    simp only [hh] at CH
    clear hh he
    go_enter Tryz.func44, Tryz.ntmps44
    go_wp2_with fail
    refine (CP _).mono ?_
    rintro e w1 (⟨A, c, rfl, hown, hb1⟩ | ⟨rfl, hG⟩)
    rotate_left
    · exact LetsOut.intro ⟨#[], []⟩ w (Or.inr ⟨rfl, hG⟩)
    have hC := CH w1.heap.size A c w1 (At.of_own hown) (Nat.le_refl _)
    clear hown
    go_wp2_with fail
    refine hC.mono ?_
    rintro e w2 ⟨rfl, hb2⟩
    go_wp2
    refine bodyPost_ret (v := .tuple #[.int .i64 0, .bool false]) (by simp [results, Tryz.results44, go_sem]) rfl ?_
    exact .inl ⟨rfl, hb1.trans (hb2.mono hb1.size)⟩
  | some i =>
    have hi := hix_lt hh
    have he : nextE P a = (off P (i + 1), true) := by unfold nextE; rw [hh]
    rw [he]
    simp only [hh] at CH
    clear hh he
    have hii : (i : Int) < (P.length : Int) := by omega
    obtain ⟨y, hy⟩ : ∃ y, off P (i + 1) = y := ⟨_, rfl⟩
    have HY := hid hy
    rw [hy]
    clear hy
    go_enter Tryz.func44, Tryz.ntmps44
    go_wp2_with fail
    refine (CP _).mono ?_
    rintro e w1 (⟨A, c, rfl, hown, hb1⟩ | ⟨rfl, hG⟩)
    rotate_left
    · exact LetsOut.intro ⟨#[], []⟩ w (Or.inr ⟨rfl, hG⟩)
    have hC := CH w1.heap.size A c w1 (At.of_own hown) (Nat.le_refl _)
    have HO := hid hown
    clear hown
    go_wp2_with fail
    refine hC.mono ?_
    rintro e w2 ⟨rfl, hb2⟩
    obtain ⟨g, o, rfl, hg, c0, c1, c2⟩ := ((At.of_own HO.out).below hb2).pr hi
    rw [HY.out] at c1
    clear c0 c2
    go_wp2
    refine bodyPost_ret (v := .tuple #[.int .i64 (y : Int), .bool true]) (by simp [results, Tryz.results44, go_sem]) rfl ?_
    exact .inl ⟨rfl, hb1.trans (hb2.mono hb1.size)⟩
theorem Back_any (s : ByteArray) (a : Int) (ha : -9223372036854775808 ≤ a) (ha2 : a ≤ 9223372036854775807) (w : World) (hs : s.size ≤ 1000000000000000000) :
    Calls Tryz.prog 53 #[.string s, .int .i64 a] w (Out (Great s.size) fun e w' => e = .returned (ansV (backE (pcs s.data.toList) a)) ∧ Below w.heap.size w w') := by
  have hlen := pcs_len s.data.toList
  have hl2 : s.data.toList.length = s.size := by simp
  have hsm := pcs_sum s.data.toList
  have CP := fun x => pieces_any s x hs
  generalize pcs s.data.toList = P at *
  have hPL : P.length ≤ 1000000000000000000 := by omega
  have hsw : (sumw P : Int) ≤ 1000000000000000000 := by unfold sumw; omega
  clear hsm
  cases hh : hix P (a - 1) with
  | none =>
    have he : backE P a = (0, false) := by unfold backE; rw [hh]
    rw [he]
    by_cases hmin : a = -9223372036854775808
    · subst hmin
      have CH := fun (B : Nat) A c x h1 h2 => holding_any B P A c 9223372036854775807 x h1 h2 hPL
      unfold hixI at CH
      rw [hix_high (by omega)] at CH
      have hwr : wrap64 (-9223372036854775809) = 9223372036854775807 := by unfold wrap64; omega
      clear hh he ha ha2 hsw
      go_enter Tryz.func53, Tryz.ntmps53
      go_wp2_with fail
      refine (CP _).mono ?_
      rintro e w1 (⟨A, c, rfl, hown, hb1⟩ | ⟨rfl, hG⟩)
      rotate_left
      · exact LetsOut.intro ⟨#[], []⟩ w (Or.inr ⟨rfl, hG⟩)
      have hC := CH w1.heap.size A c w1 (At.of_own hown) (Nat.le_refl _)
      clear hown
      go_wp2_with fail
      with_reducible refine hC.mono ?_
      rintro e w2 ⟨rfl, hb2⟩
      go_wp2
      refine bodyPost_ret (v := .tuple #[.int .i64 0, .bool false]) (by simp [results, Tryz.results53, go_sem]) rfl ?_
      exact .inl ⟨rfl, hb1.trans (hb2.mono hb1.size)⟩
    · have CH := fun (B : Nat) A c x h1 h2 => holding_any B P A c (a - 1) x h1 h2 hPL
      have ha3 : -9223372036854775808 < a := by omega
      unfold hixI at CH
      simp only [hh] at CH
      clear hh he hmin hsw
      go_enter Tryz.func53, Tryz.ntmps53
      go_wp2_with fail
      refine (CP _).mono ?_
      rintro e w1 (⟨A, c, rfl, hown, hb1⟩ | ⟨rfl, hG⟩)
      rotate_left
      · exact LetsOut.intro ⟨#[], []⟩ w (Or.inr ⟨rfl, hG⟩)
      have hC := CH w1.heap.size A c w1 (At.of_own hown) (Nat.le_refl _)
      clear hown
      go_wp2_with fail
      with_reducible refine hC.mono ?_
      rintro e w2 ⟨rfl, hb2⟩
      go_wp2
      refine bodyPost_ret (v := .tuple #[.int .i64 0, .bool false]) (by simp [results, Tryz.results53, go_sem]) rfl ?_
      exact .inl ⟨rfl, hb1.trans (hb2.mono hb1.size)⟩
  | some i =>
    have hi := hix_lt hh
    have hin := inP_iff.1 (hix_inP hh)
    have he : backE P a = (off P i, true) := by unfold backE; rw [hh]
    rw [he]
    have CH := fun (B : Nat) A c x h1 h2 => holding_any B P A c (a - 1) x h1 h2 hPL
    unfold hixI at CH
    simp only [hh] at CH
    have ha3 : -9223372036854775808 < a := by omega
    clear hh he hin hsw
    have hii : (i : Int) < (P.length : Int) := by omega
    obtain ⟨y, hy⟩ : ∃ y, off P i = y := ⟨_, rfl⟩
    have HY := hid hy
    rw [hy]
    clear hy
    go_enter Tryz.func53, Tryz.ntmps53
    go_wp2_with fail
    refine (CP _).mono ?_
    rintro e w1 (⟨A, c, rfl, hown, hb1⟩ | ⟨rfl, hG⟩)
    rotate_left
    · exact LetsOut.intro ⟨#[], []⟩ w (Or.inr ⟨rfl, hG⟩)
    have hC := CH w1.heap.size A c w1 (At.of_own hown) (Nat.le_refl _)
    have HO := hid hown
    clear hown
    go_wp2_with fail
    with_reducible refine hC.mono ?_
    rintro e w2 ⟨rfl, hb2⟩
    obtain ⟨g, o, rfl, hg, c0, c1, c2⟩ := ((At.of_own HO.out).below hb2).pr hi
    rw [HY.out] at c0
    clear c1 c2
    go_wp2
    refine bodyPost_ret (v := .tuple #[.int .i64 (y : Int), .bool true]) (by simp [results, Tryz.results53, go_sem]) rfl ?_
    exact .inl ⟨rfl, hb1.trans (hb2.mono hb1.size)⟩
end Go.Proofs.YtcfgpmmclijonaaGreatDoor
