/- Layer 9: the laws LeastSolve, LeastKeeps. (Printed by least/gen_x.py.) -/
import Derived.Test.YthannibclhidcaaLeW
namespace Go.Proofs.Ythannibclhidcaa
set_option linter.unusedVariables false
set_option linter.unusedSimpArgs false
open Go.RowKit
attribute [local go_sem] max_fold min_fold

theorem At.grown {B : Nat} {w w' : World} {A : Option Addr} {xs : List Value} {row : Option Nat} (h : At B w A xs) (hg : w.grownBy w' row) (hr : ∀ k, row = some k → B ≤ k) : At B w' A xs := by
  intro hn
  obtain ⟨g, o, hA, hlt, hc⟩ := h hn
  refine ⟨g, o, hA, hlt, fun j v hj => ?_⟩
  exact hg.cell (a := ⟨g, o + j, none⟩) (hc j v hj) (fun e => by
    have := hr g e.symm
    omega)
theorem own_apart {w w' : World} {base : Nat} {e : TypeId} {size n : Nat} {v : Value} {xs : List Value} {row : Option Nat} (h : w.ownsRow base e size v n xs) (hg : w.grownBy w' row) (hne : ∀ k, v.ownBlock = some k → row ≠ some k) : w'.ownsRow base e size v n xs := by
  refine h.kept hg ?_
  cases hv : v.ownBlock with
  | none => exact .inl rfl
  | some k => exact .inr fun e => hne k hv e.symm
theorem grown_size {w w' : World} {row : Option Nat} (h : w.grownBy w' row) : w.heap.size ≤ w'.heap.size := h.size
theorem loop_len {n : Int} {L : List T3} {R : List Int} {E : Int} (h : LoopIs n L R E) : R.length ≤ 4096 := by
  rcases loop_says h with ⟨_, _, e⟩ | ⟨_, _, e⟩ | ⟨_, _, m, hm, hL, hl, h9⟩
  · rw [e]; simp
  · rw [e]; simp
  · have hs := solveE n L
    cases h with
    | some h0 => 
      obtain ⟨m2, hm2, h3, _⟩ := chkN_ok h0
      have := h9.le
      omega
    | bad => simp
    | none => simp

set_option maxRecDepth 100000 in
set_option maxHeartbeats 8000000 in
theorem walkLeastSolve (w : World) (n : Int) (hx : (Lit.int .i64 n).wf = true) (A : Option Addr) (c : Nat) (L : List T3) (hA : At w.heap.size w A (t3s L)) (hnil : A = none → L.length = 0 ∧ c = 0) (hlc : L.length ≤ c) (hcm : c ≤ maxLen) (hz : (L.length + 1) * 24 ≤ 140737488355328) :
    Calls Try.prog 8 #[.int .i64 n, .slice A L.length c] w fun e w' => e = .returned (.bool true) ∧ Below w.heap.size w w' := by
  have hlen : L.length ≤ 9000000000000 := by omega
  cases hlg : largeB n L.length
  · obtain ⟨R, E, hR⟩ := loop_ex n L
    have hRl := loop_len hR
    have hSl := solveR_lt n L
    have hTl := tightR_lt n L
    have HLG := Go.Lib.hid fun w => hlg ▸ large_any A c n L.length w (by omega)
    have HLT := Go.Lib.hid fun (B : Nat) (w : World) (h : At B w A (t3s L)) => lent_any B A c L w h hz hnil
    have HKE := Go.Lib.hid fun (B : Nat) (A A2 : Option Addr) (c c2 : Nat) (w : World) h1 h2 h3 h4 h5 => kept9_any B A A2 c c2 L w h1 h2 h3 hz h4 h5
    have HSV := Go.Lib.hid fun (B : Nat) (A : Option Addr) (c : Nat) (w : World) h1 h2 => Solve_any B A c n L w h1 h2 (by omega)
    have HRS := Go.Lib.hid fun (B : Nat) (A : Option Addr) (c : Nat) (w : World) h1 h2 => rSolve_any B A c n L w h1 h2 (by omega)
    have HTI := Go.Lib.hid fun (B : Nat) (A : Option Addr) (c : Nat) (w : World) h1 h2 => Tight_any B A c n L w h1 h2 (by omega)
    have HRT := Go.Lib.hid fun (B : Nat) (A : Option Addr) (c : Nat) (w : World) h1 h2 => rTight_any B A c n L w h1 h2 (by omega)
    have HLO := Go.Lib.hid fun (B : Nat) (A : Option Addr) (c : Nat) (w : World) h1 h2 => Loop_any B A c n L R E w h1 h2 (by omega) hR
    have HRL := Go.Lib.hid fun (B : Nat) (A : Option Addr) (c : Nat) (w : World) h1 h2 => rLoop_any B A c n L R E w h1 h2 (by omega) hR
    generalize solveR n L = S at *
    generalize tightR n L = T at *
    generalize solveE n L = F at *
    have HA := Go.Lib.hid hA
    clear hR hlg hx hlc hcm hz hA
    go_enter Try.func8, Try.ntmps8
    have ch0 := Below.refl w.heap.size w
    go_wp2_with fail
    refine (awake_any _).mono ?_
    rintro e w1 ⟨rfl, hb1⟩
    have t1 := hb1.size
    replace ch0 := ch0.trans (hb1.mono ch0.size)
    clear hb1
    have ch1 := Below.refl w1.heap.size w1
    go_wp2_with fail
    refine (HLG.out _).mono ?_
    rintro e w' ⟨rfl, rfl⟩
    go_wp2_with fail
    refine (HLT.out _ _ (HA.out.ext ch0)).mono ?_
    rintro e w2 ⟨g2, c2, rfl, hc2, hm2, hin, hb2⟩
    have t2 := hb2.size
    replace ch0 := ch0.trans (hb2.mono ch0.size)
    replace ch1 := ch1.trans (hb2.mono ch1.size)
    clear hb2
    have ch2 := Below.refl w2.heap.size w2
    have HIN := Go.Lib.hid hin
    have hI2 := At.of_own hin
    have hT2 := hI2.take (L.length * 3)
    rw [t3s_take] at hT2
    have hgi := own_ge hin
    have HI2 := Go.Lib.hid hI2
    have HT2 := Go.Lib.hid hT2
    clear hin hI2 hT2 hgi HIN
    go_wp2_with fail
    refine (HSV.out _ _ _ _ (HT2.out.ext ch2) ch2.size).mono ?_
    rintro e w3 ⟨Aa, ca, rfl, hoa, hb3⟩
    have t3 := hb3.size
    replace ch0 := ch0.trans (hb3.mono ch0.size)
    replace ch1 := ch1.trans (hb3.mono ch1.size)
    replace ch2 := ch2.trans (hb3.mono ch2.size)
    clear hb3
    have ch3 := Below.refl w3.heap.size w3
    go_wp2_with fail
    refine (HRS.out _ _ _ _ (HA.out.ext ch0) ch0.size).mono ?_
    rintro e w4 ⟨As, cs, rfl, hos, hb4⟩
    have t4 := hb4.size
    replace ch0 := ch0.trans (hb4.mono ch0.size)
    replace ch1 := ch1.trans (hb4.mono ch1.size)
    replace ch2 := ch2.trans (hb4.mono ch2.size)
    replace ch3 := ch3.trans (hb4.mono ch3.size)
    clear hb4
    have ch4 := Below.refl w4.heap.size w4
    go_wp2_with fail
    refine (HLO.out _ _ _ _ (HT2.out.ext ch2) ch2.size).mono ?_
    rintro e w5 ⟨Ab, cb, rfl, hob, hb5⟩
    have t5 := hb5.size
    replace ch0 := ch0.trans (hb5.mono ch0.size)
    replace ch1 := ch1.trans (hb5.mono ch1.size)
    replace ch2 := ch2.trans (hb5.mono ch2.size)
    replace ch3 := ch3.trans (hb5.mono ch3.size)
    replace ch4 := ch4.trans (hb5.mono ch4.size)
    clear hb5
    have ch5 := Below.refl w5.heap.size w5
    go_wp2_with fail
    refine (HRL.out _ _ _ _ (HA.out.ext ch0) ch0.size).mono ?_
    rintro e w6 ⟨Ar, cr, rfl, hor, hb6⟩
    have t6 := hb6.size
    replace ch0 := ch0.trans (hb6.mono ch0.size)
    replace ch1 := ch1.trans (hb6.mono ch1.size)
    replace ch2 := ch2.trans (hb6.mono ch2.size)
    replace ch3 := ch3.trans (hb6.mono ch3.size)
    replace ch4 := ch4.trans (hb6.mono ch4.size)
    replace ch5 := ch5.trans (hb6.mono ch5.size)
    clear hb6
    have ch6 := Below.refl w6.heap.size w6
    go_wp2_with fail
    refine (HTI.out _ _ _ _ (HT2.out.ext ch2) ch2.size).mono ?_
    rintro e w7 ⟨Ac, cc, rfl, hoc, hb7⟩
    have t7 := hb7.size
    replace ch0 := ch0.trans (hb7.mono ch0.size)
    replace ch1 := ch1.trans (hb7.mono ch1.size)
    replace ch2 := ch2.trans (hb7.mono ch2.size)
    replace ch3 := ch3.trans (hb7.mono ch3.size)
    replace ch4 := ch4.trans (hb7.mono ch4.size)
    replace ch5 := ch5.trans (hb7.mono ch5.size)
    replace ch6 := ch6.trans (hb7.mono ch6.size)
    clear hb7
    have ch7 := Below.refl w7.heap.size w7
    go_wp2_with fail
    refine (HRT.out _ _ _ _ (HA.out.ext ch0) ch0.size).mono ?_
    rintro e w8 ⟨At_, ct, rfl, hot, hb8⟩
    have t8 := hb8.size
    replace ch0 := ch0.trans (hb8.mono ch0.size)
    replace ch1 := ch1.trans (hb8.mono ch1.size)
    replace ch2 := ch2.trans (hb8.mono ch2.size)
    replace ch3 := ch3.trans (hb8.mono ch3.size)
    replace ch4 := ch4.trans (hb8.mono ch4.size)
    replace ch5 := ch5.trans (hb8.mono ch5.size)
    replace ch6 := ch6.trans (hb8.mono ch6.size)
    replace ch7 := ch7.trans (hb8.mono ch7.size)
    clear hb8
    have ch8 := Below.refl w8.heap.size w8
    have HOa := Go.Lib.hid hoa
    have HOs := Go.Lib.hid hos
    have HOb := Go.Lib.hid hob
    have HOr := Go.Lib.hid hor
    have HOc := Go.Lib.hid hoc
    have HOt := Go.Lib.hid hot
    clear hoa hos hob hor hoc hot
    go_wp2_with fail
    refine (same9_any _ Aa As ca cs S _ (by omega) ((At.of_own HOa.out).ext ch3 |>.mono ch3.size) ((At.of_own HOs.out).ext ch4 |>.mono ch4.size)).mono ?_
    rintro e w9 ⟨rfl, hb9⟩
    have t9 := hb9.size
    replace ch0 := ch0.trans (hb9.mono ch0.size)
    replace ch1 := ch1.trans (hb9.mono ch1.size)
    replace ch2 := ch2.trans (hb9.mono ch2.size)
    replace ch3 := ch3.trans (hb9.mono ch3.size)
    replace ch4 := ch4.trans (hb9.mono ch4.size)
    replace ch5 := ch5.trans (hb9.mono ch5.size)
    replace ch6 := ch6.trans (hb9.mono ch6.size)
    replace ch7 := ch7.trans (hb9.mono ch7.size)
    replace ch8 := ch8.trans (hb9.mono ch8.size)
    clear hb9
    go_wp2_with fail
    refine (same9_any _ Ab Ar cb cr R _ (by omega) ((At.of_own HOb.out).ext ch5 |>.mono ch5.size) ((At.of_own HOr.out).ext ch6 |>.mono ch6.size)).mono ?_
    rintro e w10 ⟨rfl, hb10⟩
    have t10 := hb10.size
    replace ch0 := ch0.trans (hb10.mono ch0.size)
    replace ch1 := ch1.trans (hb10.mono ch1.size)
    replace ch2 := ch2.trans (hb10.mono ch2.size)
    replace ch3 := ch3.trans (hb10.mono ch3.size)
    replace ch4 := ch4.trans (hb10.mono ch4.size)
    replace ch5 := ch5.trans (hb10.mono ch5.size)
    replace ch6 := ch6.trans (hb10.mono ch6.size)
    replace ch7 := ch7.trans (hb10.mono ch7.size)
    replace ch8 := ch8.trans (hb10.mono ch8.size)
    clear hb10
    go_wp2_with fail
    refine (same9_any _ Ac At_ cc ct T _ (by omega) ((At.of_own HOc.out).ext ch7 |>.mono ch7.size) ((At.of_own HOt.out).ext ch8 |>.mono ch8.size)).mono ?_
    rintro e w11 ⟨rfl, hb11⟩
    have t11 := hb11.size
    replace ch0 := ch0.trans (hb11.mono ch0.size)
    replace ch1 := ch1.trans (hb11.mono ch1.size)
    replace ch2 := ch2.trans (hb11.mono ch2.size)
    replace ch3 := ch3.trans (hb11.mono ch3.size)
    replace ch4 := ch4.trans (hb11.mono ch4.size)
    replace ch5 := ch5.trans (hb11.mono ch5.size)
    replace ch6 := ch6.trans (hb11.mono ch6.size)
    replace ch7 := ch7.trans (hb11.mono ch7.size)
    replace ch8 := ch8.trans (hb11.mono ch8.size)
    clear hb11
    have ch11 := Below.refl w11.heap.size w11
    have s0 := ch0.size
    have za := (own_below' HOa.out ch3)
    have zb := (own_below' HOb.out ch5)
    have zc := (own_below' HOc.out ch7)
    have zs := (own_below' HOs.out ch4)
    have ga := own_ge za
    have gb := own_ge zb
    have gc := own_ge zc
    have gs := own_ge zs
    have la := fun k h => (HOa.out.lt k h).2
    have lb := fun k h => (HOb.out.lt k h).2
    have ls := fun k h => (HOs.out.lt k h).2
    go_wp2_with fail
    refine (spoil_any w2.heap.size Aa ca S _ za (by omega) (by omega)).mono ?_
    rintro e w12 ⟨rfl, gw12⟩
    have t12 := gw12.size
    replace zb := own_apart zb gw12 (fun k h1 h2 => by have := gb k h1; have := la k h2; omega)
    replace zc := own_apart zc gw12 (fun k h1 h2 => by have := gc k h1; have := la k h2; omega)
    replace zs := own_apart zs gw12 (fun k h1 h2 => by have := gs k h1; have := la k h2; omega)
    replace ch0 := ch0.grown gw12 (by omega) (fun k hk => by have := ga k hk; omega)
    replace ch2 := ch2.grown gw12 (by omega) (fun k hk => by have := ga k hk; omega)
    clear gw12 za
    go_wp2_with fail
    refine (spoil_any w4.heap.size Ab cb R _ zb (by omega) (by omega)).mono ?_
    rintro e w13 ⟨rfl, gw13⟩
    have t13 := gw13.size
    replace zc := own_apart zc gw13 (fun k h1 h2 => by have := gc k h1; have := lb k h2; omega)
    replace zs := own_apart zs gw13 (fun k h1 h2 => by have := ls k h1; have := gb k h2; omega)
    replace ch0 := ch0.grown gw13 (by omega) (fun k hk => by have := gb k hk; omega)
    replace ch2 := ch2.grown gw13 (by omega) (fun k hk => by have := gb k hk; omega)
    clear gw13 zb
    go_wp2_with fail
    refine (spoil_any w6.heap.size Ac cc T _ zc (by omega) (by omega)).mono ?_
    rintro e w14 ⟨rfl, gw14⟩
    have t14 := gw14.size
    replace zs := own_apart zs gw14 (fun k h1 h2 => by have := ls k h1; have := gc k h2; omega)
    replace ch0 := ch0.grown gw14 (by omega) (fun k hk => by have := gc k hk; omega)
    replace ch2 := ch2.grown gw14 (by omega) (fun k hk => by have := gc k hk; omega)
    clear gw14 zc
    clear ch1 ch3 ch4 ch5 ch6 ch7 ch8 ch11
    go_wp2_with fail
    refine (HSV.out _ _ _ _ (HT2.out.ext ch2) ch2.size).mono ?_
    rintro e w15 ⟨Ag, cg, rfl, hog, hb15⟩
    have t15 := hb15.size
    replace ch0 := ch0.trans (hb15.mono ch0.size)
    replace ch2 := ch2.trans (hb15.mono ch2.size)
    replace zs := own_below' zs hb15
    have zg := hog
    clear hog hb15
    go_wp2_with fail
    refine (HKE.out _ _ _ _ _ _ ((HI2.out.ext ch2).mono ch2.size) ((HA.out.ext ch0).mono ch0.size) (Nat.le_refl _) hc2 hm2).mono ?_
    rintro e w16 ⟨rfl, hb16⟩
    have t16 := hb16.size
    replace ch0 := ch0.trans (hb16.mono ch0.size)
    replace ch2 := ch2.trans (hb16.mono ch2.size)
    replace zs := own_below' zs hb16; replace zg := own_below' zg hb16; clear hb16
    go_wp2_with fail
    refine (same9_any _ Ag As cg cs S _ (by omega) (At.of_own zg) (At.of_own zs)).mono ?_
    rintro e w17 ⟨rfl, hb17⟩
    have t17 := hb17.size
    replace ch0 := ch0.trans (hb17.mono ch0.size)
    replace ch2 := ch2.trans (hb17.mono ch2.size)
    clear hb17
    go_wp2
    go_ret
    exact ⟨rfl, ch0⟩
  · have HLG := Go.Lib.hid fun w => hlg ▸ large_any A c n L.length w (by omega)
    clear hlg
    go_enter Try.func8, Try.ntmps8
    go_wp2_with fail
    refine (awake_any _).mono ?_
    rintro e w1 ⟨rfl, hb1⟩
    go_wp2_with fail
    refine (HLG.out _).mono ?_
    rintro e w' ⟨rfl, rfl⟩
    go_wp2
    go_ret
    exact ⟨rfl, hb1⟩
end Go.Proofs.Ythannibclhidcaa
