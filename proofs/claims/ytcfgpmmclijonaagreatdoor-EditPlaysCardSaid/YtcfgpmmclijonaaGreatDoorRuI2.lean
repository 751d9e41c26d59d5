/- Layer 3: the reference's Next and Back; contracts at small texts. -/
import Derived.Test.YtcfgpmmclijonaaGreatDoorRuI
import Derived.Test.YtcfgpmmclijonaaGreatDoorRuH
namespace Go.Proofs.YtcfgpmmclijonaaGreatDoor
set_option linter.unusedVariables false
set_option linter.unusedSimpArgs false
set_option maxRecDepth 100000
open Go.RowKit Go.Lib

theorem small {f : FuncId} {args : Array Value} {w : World} {n : Nat} {R : Ending → World → Prop} (h : Calls Tryz.prog f args w (Out (Great n) R)) (hn : n ≤ 4000000) : Calls Tryz.prog f args w R :=
  h.mono fun _ _ hh => hh.elim id (fun ⟨_, hG⟩ => absurd hG (by unfold Great; omega))
theorem small2 {f : FuncId} {args : Array Value} {w : World} {n m : Nat} {R : Ending → World → Prop} (h : Calls Tryz.prog f args w (Out (Great n ∨ Great m) R)) (hn : n ≤ 4000000) (hm : m ≤ 4000000) : Calls Tryz.prog f args w R :=
  h.mono fun _ _ hh => hh.elim id (fun ⟨_, hG⟩ => hG.elim (fun h => absurd h (by unfold Great; omega)) (fun h => absurd h (by unfold Great; omega)))
set_option maxHeartbeats 4000000
set_option maxRecDepth 100000
theorem rNext_any (s : ByteArray) (a : Int) (w : World) (hs : s.size ≤ 4000000) :
    Calls Tryz.prog 60 #[.string s, .int .i64 a] w fun e w' => e = .returned (ansV (nextE (pcs s.data.toList) a)) ∧ Below w.heap.size w w' := by
  have hlen := pcs_len s.data.toList
  have hl2 : s.data.toList.length = s.size := by simp
  have CP := fun x => small (rpieces_any s x (by omega)) hs
  generalize pcs s.data.toList = P at *
  have hPL : (P.length : Int) ≤ 4000000 := by omega
  have HS := hid (fun (i : Nat) (hi : i < P.length) (h : InP P a i = true) => show nextE P a = (off P (i + 1), true) by unfold nextE; rw [hix_some hi h])
  have HZ := hid (fun (h : ∀ i, i < P.length → InP P a i = false) => show nextE P a = (0, false) by unfold nextE; rw [hix_none h])
  generalize nextE P a = Z at *
  clear hlen hl2
  go_enter Tryz.func60, Tryz.ntmps60
  go_wp2_with fail
  refine (CP _).mono ?_
  rintro e w1 ⟨A, c, rfl, hown, hb1⟩
  have HA := hid (At.of_own hown)
  have hs1 := hb1.size
  clear hown CP
  go_wp2
  go_loopg [7] P.length (fun gh i wr => ∃ k : Nat, i = .int .i64 k ∧ k ≤ P.length ∧ P.length - k ≤ gh ∧ Hid (∀ j, j < k → InP P a j = false) ∧ Below w1.heap.size w1 wr)
  case atStart => exact ⟨0, rfl, by omega, by omega, hid (fun j hj => by omega), Below.refl _ _⟩
  case round =>
    obtain ⟨k, rfl, hk, hgh, HN, hbr⟩ := hrel
    have hsr := hbr.size
    by_cases hlt : k < P.length
    · have hli : (k : Int) < (P.length : Int) := by omega
      obtain ⟨g, o, rfl, hg, c0, c1, c2, c3⟩ := (HA.out.below hbr).qr hlt
      have HX := hid (fun (h1 : (off P k : Int) ≤ a) (h2 : a < (off P (k + 1) : Int)) => HS.out k hlt (inP_iff.2 ⟨h1, h2⟩))
      have HY := hid (fun (h : ¬ ((off P k : Int) ≤ a ∧ a < (off P (k + 1) : Int))) (j : Nat) (hj : j < k + 1) => show InP P a j = false by
        by_cases e : j = k
        · subst e
          exact inP_no h
        · exact HN.out j (by omega))
      obtain ⟨x, hx⟩ : ∃ x, off P k = x := ⟨_, rfl⟩
      obtain ⟨y, hy⟩ : ∃ y, off P (k + 1) = y := ⟨_, rfl⟩
      rw [hx] at c0 HX HY
      rw [hy] at c1 HX HY
      clear hx hy c2 c3
      by_cases h1 : (x : Int) ≤ a
      · by_cases h2 : a < (y : Int)
        · have hz := HX.out h1 h2
          have HZZ := hid hz
          clear hz
          go_wp2
          refine bodyPost_ret (v := .tuple #[.int .i64 (y : Int), .bool true]) (by simp [results, Tryz.results60, go_sem]) rfl ?_
          exact ⟨by rw [HZZ.out]; rfl, hb1.trans (hbr.mono hs1)⟩
        · have HN2 := hid (HY.out (fun h => h2 h.2))
          go_wp2
          go_roundg (P.length - (k + 1))
          case measure => omega
          case rel => exact ⟨k + 1, by go_num, by omega, by omega, HN2, hbr⟩
      · have HN2 := hid (HY.out (fun h => h1 h.1))
        go_wp2
        go_roundg (P.length - (k + 1))
        case measure => omega
        case rel => exact ⟨k + 1, by go_num, by omega, by omega, HN2, hbr⟩
    · have hli : ¬ ((k : Int) < (P.length : Int)) := by omega
      have hz := HZ.out (fun i hi => HN.out i (by omega))
      have HZZ := hid hz
      clear hz
      go_wp2
      refine bodyPost_ret (v := .tuple #[.int .i64 0, .bool false]) (by simp [results, Tryz.results60, go_sem]) rfl ?_
      exact ⟨by rw [HZZ.out]; rfl, hb1.trans (hbr.mono hs1)⟩
theorem rBack_any (s : ByteArray) (a : Int) (w : World) (hs : s.size ≤ 4000000) :
    Calls Tryz.prog 75 #[.string s, .int .i64 a] w fun e w' => e = .returned (ansV (backE (pcs s.data.toList) a)) ∧ Below w.heap.size w w' := by
  have hlen := pcs_len s.data.toList
  have hl2 : s.data.toList.length = s.size := by simp
  have hsm := pcs_sum s.data.toList
  have CP := fun x => small (rpieces_any s x (by omega)) hs
  generalize pcs s.data.toList = P at *
  have hsw : sumw P = s.size := by unfold sumw; omega
  have hPL : (P.length : Int) ≤ 4000000 := by omega
  clear hlen hl2 hsm
  by_cases h1 : a < 1
  · have he : backE P a = (0, false) := by unfold backE; rw [hix_low (by omega)]
    rw [he]
    clear he hsw
    go_enter Tryz.func75, Tryz.ntmps75
    go_wp2
    refine bodyPost_ret (v := .tuple #[.int .i64 0, .bool false]) (by simp [results, Tryz.results75, go_sem]) rfl ?_
    exact ⟨rfl, Below.refl _ _⟩
  · by_cases h2 : (s.size : Int) < a
    · have he : backE P a = (0, false) := by unfold backE; rw [hix_high (by omega)]
      rw [he]
      clear he hsw
      go_enter Tryz.func75, Tryz.ntmps75
      go_wp2
      refine bodyPost_ret (v := .tuple #[.int .i64 0, .bool false]) (by simp [results, Tryz.results75, go_sem]) rfl ?_
      exact ⟨rfl, Below.refl _ _⟩
    · obtain ⟨q, hq, hin⟩ := hix_in (P := P) (a := a - 1) (by omega) (by omega)
      have he : backE P a = (off P q, true) := by unfold backE; rw [hix_some hq hin]
      have hiq := inP_iff.1 hin
      have HQ := hid hiq
      rw [he]
      clear he hsw hin hiq
      obtain ⟨Y, hY⟩ : ∃ Y, off P q = Y := ⟨_, rfl⟩
      have HY := hid hY
      rw [hY]
      clear hY
      go_enter Tryz.func75, Tryz.ntmps75
      go_wp2_with fail
      refine (CP _).mono ?_
      rintro e w1 ⟨A, c, rfl, hown, hb1⟩
      have HA := hid (At.of_own hown)
      have hs1 := hb1.size
      clear hown CP
      go_wp2
      go_loopg [7, 8] P.length (fun gh v i wr => ∃ k T : Nat, v = .int .i64 T ∧ i = .int .i64 k ∧ Hid (T = off P (min (k - 1) q)) ∧ k ≤ P.length ∧ P.length - k ≤ gh ∧ Below w1.heap.size w1 wr)
      case atStart => exact ⟨0, 0, rfl, rfl, hid (by simp [off]), by omega, by omega, Below.refl _ _⟩
      case round =>
        obtain ⟨k, T, rfl, rfl, HT, hk, hgh, hbr⟩ := hrel
        have hsr := hbr.size
        by_cases hlt : k < P.length
        · have hli : (k : Int) < (P.length : Int) := by omega
          obtain ⟨g, o, rfl, hg, c0, c1, c2, c3⟩ := (HA.out.below hbr).qr hlt
          have HX := hid (fun (h : (off P k : Int) < a) => show off P k = off P (min (k + 1 - 1) q) by
            have : k ≤ q := by
              by_cases hkq : k ≤ q
              · exact hkq
              · have := off_mono P (show q + 1 ≤ k by omega)
                have := HQ.out
                omega
            rw [show min (k + 1 - 1) q = k by omega])
          have HX2 := hid (fun (h : ¬ ((off P k : Int) < a)) => show T = off P (min (k + 1 - 1) q) by
            have : q < k := by
              by_cases hkq : q < k
              · exact hkq
              · have := off_mono P (show k ≤ q by omega)
                have := HQ.out
                omega
            rw [HT.out, show min (k + 1 - 1) q = q by omega, show min (k - 1) q = q by omega])
          obtain ⟨x, hx⟩ : ∃ x, off P k = x := ⟨_, rfl⟩
          rw [hx] at c0 HX HX2
          clear hx c1 c2 c3
          by_cases hxa : (x : Int) < a
          · have HN := hid (HX.out hxa)
            go_wp2
            go_roundg (P.length - (k + 1))
            case measure => omega
            case rel => exact ⟨k + 1, x, rfl, by go_num, HN, by omega, by omega, hbr⟩
          · have HN := hid (HX2.out hxa)
            go_wp2
            go_roundg (P.length - (k + 1))
            case measure => omega
            case rel => exact ⟨k + 1, T, rfl, by go_num, HN, by omega, by omega, hbr⟩
        · have hli : ¬ ((k : Int) < (P.length : Int)) := by omega
          have hTY : T = Y := by
            rw [HT.out, ← HY.out, show min (k - 1) q = q by omega]
          subst hTY
          go_wp2
          refine bodyPost_ret (v := .tuple #[.int .i64 (T : Int), .bool true]) (by simp [results, Tryz.results75, go_sem]) rfl ?_
          exact ⟨rfl, hb1.trans (hbr.mono hs1)⟩
end Go.Proofs.YtcfgpmmclijonaaGreatDoor
