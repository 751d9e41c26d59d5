/- Layer 9: the law LeastKeeps. (Printed by least/gen_x.py.) -/
import Derived.Test.YthannibclhidcaaLeX
namespace Go.Proofs.Ythannibclhidcaa
set_option linter.unusedVariables false
set_option linter.unusedSimpArgs false
open Go.RowKit
attribute [local go_sem] max_fold min_fold

set_option maxRecDepth 100000 in
set_option maxHeartbeats 8000000 in
theorem walkLeastKeeps (w : World) (A2 : Option Addr) (c2 : Nat) (X : List Int) (hX : At w.heap.size w A2 (ints X)) (hnil2 : A2 = none → X.length = 0 ∧ c2 = 0) (hlc2 : X.length ≤ c2) (hcm2 : c2 ≤ maxLen) (hwf : ∀ n ∈ X, (Lit.int .i64 n).wf = true) (hz2 : X.length * 8 ≤ 140737488355328)
    (A : Option Addr) (c : Nat) (L : List T3) (hA : At w.heap.size w A (t3s L)) (hnil : A = none → L.length = 0 ∧ c = 0) (hlc : L.length ≤ c) (hcm : c ≤ maxLen) (hz : (L.length + 1) * 24 ≤ 140737488355328) (most : Int) (hx : (Lit.int .i64 most).wf = true) :
    Calls Try.prog 9 #[.slice A2 X.length c2, .slice A L.length c, .int .i64 most] w fun e w' => e = .returned (.bool true) ∧ Below w.heap.size w w' := by
  have hlen : L.length ≤ 9000000000000 := by omega
  have hlen2 : X.length ≤ 90000000000000 := by omega
  cases hlg : largeB X.length L.length
  · have hSl := topR_lt X.length L most
    have HLG := Go.Lib.hid fun w => hlg ▸ large_any A c X.length L.length w (by omega)
    have HLT := Go.Lib.hid fun (B : Nat) (w : World) (h : At B w A (t3s L)) => lent_any B A c L w h hz hnil
    have HKE := Go.Lib.hid fun (B : Nat) (A A2 : Option Addr) (c c2 : Nat) (w : World) h1 h2 h3 h4 h5 => kept9_any B A A2 c c2 L w h1 h2 h3 hz h4 h5
    have HTO := Go.Lib.hid fun (B : Nat) (A : Option Addr) (c : Nat) (w : World) h1 h2 => Most_any B A c X.length L most w h1 h2 (by omega)
    have HRT := Go.Lib.hid fun (B : Nat) (A : Option Addr) (c : Nat) (w : World) h1 h2 => rMost_any B A c X.length L most w h1 h2 (by omega)
    have HKP := Go.Lib.hid fun (B : Nat) (A Ax : Option Addr) (c cx : Nat) (w : World) h1 h2 h3 => Keeps_any B A Ax c cx X L w h1 h2 h3 (by omega) (by omega)
    have HRK := Go.Lib.hid fun (B : Nat) (A Ax : Option Addr) (c cx : Nat) (w : World) h1 h2 h3 => rKeeps_any B A Ax c cx X L w h1 h2 h3 (by omega) (by omega)
    unfold KeepsP at HKP HRK
    generalize topR X.length L most = S at *
    generalize topE X.length L most = F at *
    generalize keepsK X L = K1 at *
    generalize keepsE X L = K2 at *
    have HA := Go.Lib.hid hA
    have HX := Go.Lib.hid hX
    have HN2 := Go.Lib.hid hnil2
    obtain ⟨i0, hi, hz0, hz1, hz3⟩ := info_parts info_int
    clear hlg hx hlc hcm hz hA hlc2 hcm2 hX hnil hnil2 hwf
    go_enter Try.func9, Try.ntmps9
    have ch0 := Below.refl w.heap.size w
    go_wp2_with fail
    refine (awake_any _).mono ?_
    rintro e w1 ⟨rfl, hb1⟩
    have t1 := hb1.size
    replace ch0 := ch0.trans (hb1.mono ch0.size)
    clear hb1
    have ch1 := Below.refl w1.heap.size w1
    go_wp2_with fail
    refine (HLG.out _).mono ?_
    rintro e w' ⟨rfl, rfl⟩
    go_wp2_with fail
    refine (HLT.out _ _ (HA.out.ext ch0)).mono ?_
    rintro e w2 ⟨g2, c3, rfl, hc2, hm2, hin, hb2⟩
    have t2 := hb2.size
    replace ch0 := ch0.trans (hb2.mono ch0.size)
    replace ch1 := ch1.trans (hb2.mono ch1.size)
    clear hb2
    have ch2 := Below.refl w2.heap.size w2
    have hI2 := At.of_own hin
    have hT2 := hI2.take (L.length * 3)
    rw [t3s_take] at hT2
    have HI2 := Go.Lib.hid hI2
    have HT2 := Go.Lib.hid hT2
    clear hin hI2 hT2
    go_wp2_with (first | (at_builtin; refine append_many Try.underlying22 hi hz0 hz1 hz3 rfl (by decide) rfl (.tmp 28) (.tmp 29) rfl w2.heap.size (.slice none 0 0) 0 [] A2 X.length c2 w.heap.size (ints X) rfl rfl HN2.out (World.ownsRow_nil _ _ _ _) (HX.out.ext ch0) (by simp [ints]) (ints_one X) ?_ ?_ (Nat.le_refl _) ?_))
    · unfold maxLen; omega
    · omega
    intro v3 w3 hown3 hg3
    have hb3 := (Below.refl w2.heap.size w2).grown hg3 (Nat.le_refl _) (fun k hk => by cases hk)
    have t3 := hb3.size
    replace ch0 := ch0.trans (hb3.mono ch0.size)
    replace ch1 := ch1.trans (hb3.mono ch1.size)
    replace ch2 := ch2.trans (hb3.mono ch2.size)
    replace hown3 : w3.ownsRow w2.heap.size 3 1 v3 X.length (ints X) := by simpa using hown3
    obtain ⟨Ap, cp, rfl⟩ := own_shape hown3
    have HP := Go.Lib.hid hown3
    clear hown3 hg3 hb3
    have ch3 := Below.refl w3.heap.size w3
    go_wp2_with fail
    refine (HKP.out _ _ _ _ _ _ ((HT2.out.ext ch2).mono ch2.size) ((At.of_own HP.out).ext ch3 |>.mono ch3.size) (Nat.le_refl _)).mono ?_
    rintro e w4 ⟨rfl, hb4⟩
    have t4 := hb4.size
    replace ch0 := ch0.trans (hb4.mono ch0.size)
    replace ch1 := ch1.trans (hb4.mono ch1.size)
    replace ch2 := ch2.trans (hb4.mono ch2.size)
    replace ch3 := ch3.trans (hb4.mono ch3.size)
    clear hb4
    go_wp2_with fail
    refine (HRK.out _ _ _ _ _ _ ((HA.out.ext ch0).mono ch0.size) ((HX.out.ext ch0).mono ch0.size) (Nat.le_refl _)).mono ?_
    rintro e w5 ⟨rfl, hb5⟩
    have t5 := hb5.size
    replace ch0 := ch0.trans (hb5.mono ch0.size)
    replace ch1 := ch1.trans (hb5.mono ch1.size)
    replace ch2 := ch2.trans (hb5.mono ch2.size)
    replace ch3 := ch3.trans (hb5.mono ch3.size)
    clear hb5
    have ch5 := Below.refl w5.heap.size w5
    go_wp2_with fail
    refine (HTO.out _ _ _ _ (HT2.out.ext ch2) ch2.size).mono ?_
    rintro e w6 ⟨Aa, ca, rfl, hoa, hb6⟩
    have t6 := hb6.size
    replace ch0 := ch0.trans (hb6.mono ch0.size)
    replace ch1 := ch1.trans (hb6.mono ch1.size)
    replace ch2 := ch2.trans (hb6.mono ch2.size)
    replace ch3 := ch3.trans (hb6.mono ch3.size)
    replace ch5 := ch5.trans (hb6.mono ch5.size)
    clear hb6
    have ch6 := Below.refl w6.heap.size w6
    go_wp2_with fail
    refine (HRT.out _ _ _ _ (HA.out.ext ch0) ch0.size).mono ?_
    rintro e w7 ⟨As, cs, rfl, hos, hb7⟩
    have t7 := hb7.size
    replace ch0 := ch0.trans (hb7.mono ch0.size)
    replace ch1 := ch1.trans (hb7.mono ch1.size)
    replace ch2 := ch2.trans (hb7.mono ch2.size)
    replace ch3 := ch3.trans (hb7.mono ch3.size)
    replace ch5 := ch5.trans (hb7.mono ch5.size)
    replace ch6 := ch6.trans (hb7.mono ch6.size)
    clear hb7
    have ch7 := Below.refl w7.heap.size w7
    have HOa := Go.Lib.hid hoa
    have HOs := Go.Lib.hid hos
    clear hoa hos
    go_wp2_with fail
    refine (same9_any _ Aa As ca cs S _ (by omega) ((At.of_own HOa.out).ext ch6 |>.mono ch6.size) ((At.of_own HOs.out).ext ch7 |>.mono ch7.size)).mono ?_
    rintro e w8 ⟨rfl, hb8⟩
    have t8 := hb8.size
    replace ch0 := ch0.trans (hb8.mono ch0.size)
    replace ch1 := ch1.trans (hb8.mono ch1.size)
    replace ch2 := ch2.trans (hb8.mono ch2.size)
    replace ch3 := ch3.trans (hb8.mono ch3.size)
    replace ch5 := ch5.trans (hb8.mono ch5.size)
    replace ch6 := ch6.trans (hb8.mono ch6.size)
    replace ch7 := ch7.trans (hb8.mono ch7.size)
    clear hb8
    have s0 := ch0.size
    have za := own_below' HOa.out ch6
    have zp := own_below' HP.out ch3
    have ga := own_ge za
    have lp := fun k h => (HP.out.lt k h).2
    have gp := own_ge zp
    have la := fun k h => (HOa.out.lt k h).2
    have s5 := ch5.size
    go_wp2_with fail
    refine (spoil_any w5.heap.size Aa ca S _ za (by omega) (by omega)).mono ?_
    rintro e w9 ⟨rfl, gw9⟩
    have t9 := gw9.size
    replace zp := own_apart zp gw9 (fun k h1 h2 => by have := lp k h1; have := ga k h2; omega)
    replace ch0 := ch0.grown gw9 (by omega) (fun k hk => by have := ga k hk; omega)
    replace ch2 := ch2.grown gw9 (by omega) (fun k hk => by have := ga k hk; omega)
    clear gw9 za
    clear ch1 ch3 ch5 ch6 ch7
    go_wp2_with fail
    refine (HKE.out _ _ _ _ _ _ ((HI2.out.ext ch2).mono ch2.size) ((HA.out.ext ch0).mono ch0.size) (Nat.le_refl _) hc2 hm2).mono ?_
    rintro e w10 ⟨rfl, hb10⟩
    have t10 := hb10.size
    replace ch0 := ch0.trans (hb10.mono ch0.size)
    replace ch2 := ch2.trans (hb10.mono ch2.size)
    replace zp := own_below' zp hb10; clear hb10
    go_wp2_with fail
    refine (same9_any _ Ap A2 cp c2 X _ (by omega) (At.of_own zp) ((HX.out.ext ch0).mono ch0.size)).mono ?_
    rintro e w11 ⟨rfl, hb11⟩
    have t11 := hb11.size
    replace ch0 := ch0.trans (hb11.mono ch0.size)
    replace ch2 := ch2.trans (hb11.mono ch2.size)
    clear hb11
    go_wp2
    go_ret
    exact ⟨rfl, ch0⟩
  · have HLG := Go.Lib.hid fun w => hlg ▸ large_any A c X.length L.length w (by omega)
    clear hlg
    go_enter Try.func9, Try.ntmps9
    go_wp2_with fail
    refine (awake_any _).mono ?_
    rintro e w1 ⟨rfl, hb1⟩
    go_wp2_with fail
    refine (HLG.out _).mono ?_
    rintro e w' ⟨rfl, rfl⟩
    go_wp2
    go_ret
    exact ⟨rfl, hb1⟩
end Go.Proofs.Ythannibclhidcaa
