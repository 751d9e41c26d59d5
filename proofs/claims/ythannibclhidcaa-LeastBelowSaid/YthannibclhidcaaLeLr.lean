/- Layer 9: the reference's Loop. -/
import Derived.Test.YthannibclhidcaaLeT
namespace Go.Proofs.Ythannibclhidcaa
set_option linter.unusedVariables false
set_option linter.unusedSimpArgs false
open Go.RowKit
attribute [local go_sem] max_fold min_fold

def lenV : Value → Nat
  | .slice _ n _ => n
  | _ => 0
theorem lenV_slice (A : Option Addr) (n c : Nat) : lenV (.slice A n c) = n := rfl
theorem Arg.uniq {n : Nat} {L : List T3} {s : St} {t : Nat → Nat} {u p b b' : Nat} (hc : Cyc n L s t u p) (h : Arg L s u p b) (h' : Arg L s u p b') : b' = b := by
  have e : mdB L s u b = mdB L s u b' := Nat.le_antisymm (h.le _ h'.lt) (h'.le _ h.lt)
  have h1 := (hc.md b).1.qv
  have h2 := (hc.md b').1.qv
  rw [e, h2] at h1
  rcases Nat.lt_trichotomy b b' with h3 | h3 | h3
  · exact absurd h1.symm (hc.inj h3 h'.lt)
  · exact h3.symm
  · exact absurd h1 (hc.inj h3 h.lt)
/-- The bounds on the way back. -/
def backL (L : List T3) (s : St) (u : Nat) (a : Nat) : List Int := (List.range a).map fun i => (mdB L s u i : Int)
theorem backL_len (L : List T3) (s : St) (u a : Nat) : (backL L s u a).length = a := by simp [backL]
theorem backL_succ (L : List T3) (s : St) (u a : Nat) : backL L s u (a + 1) = backL L s u a ++ [(mdB L s u a : Int)] := by simp [backL, List.range_succ]
theorem backL_at {L : List T3} {s : St} {u a i : Nat} (h : i < a) : (backL L s u a).getD i 0 = (mdB L s u i : Int) := by simp [backL, List.getD, h]
def outL (L : List T3) (s : St) (u p b : Nat) (i : Nat) : List Int := (List.range i).map fun i => (mdB L s u (b + p - i) : Int)
theorem outL_len (L : List T3) (s : St) (u p b a : Nat) : (outL L s u p b a).length = a := by simp [outL]
theorem outL_succ (L : List T3) (s : St) (u p b a : Nat) : outL L s u p b (a + 1) = outL L s u p b a ++ [(mdB L s u (b + p - a) : Int)] := by simp [outL, List.range_succ]
theorem Cyc.mod {n : Nat} {L : List T3} {s : St} {t : Nat → Nat} {u p : Nat} (h : Cyc n L s t u p) (a : Nat) : mdB L s u (a % p) = mdB L s u a := by
  unfold mdB
  rw [← it_mod h.back]
theorem tmod_is {b i p : Nat} (hi : i ≤ b + p) (hp : 0 < p) : Int.tmod ((b : Int) - (i : Int) + (p : Int)) (p : Int) = (((b + p - i) % p : Nat) : Int) := by
  have e : (b : Int) - (i : Int) + (p : Int) = ((b + p - i : Nat) : Int) := by omega
  rw [e]
  rfl
theorem Has.mdB {n : Nat} {L : List T3} {s : St} {t : Nat → Nat} {u a j : Nat} (h : Has n L s t (itB L s a u) j) : Go.Proofs.Ythannibclhidcaa.mdB L s u a = j := by
  unfold Go.Proofs.Ythannibclhidcaa.mdB
  rw [h.made]
  rfl
theorem it_succ {n : Nat} {L : List T3} {s : St} {t : Nat → Nat} {u a j : Nat} (h : Has n L s t (itB L s a u) j) : itB L s (a + 1) u = pn L j := h.bkw
/-- What the walk knows of one number on the way. -/
theorem cell_made {w : World} {base gm m : Nat} {M : List Int} (h : w.ownsRow base 3 1 (.slice (some ⟨gm, 0, none⟩) m m) m (ints M)) (hM : M.length = m) {v : Nat} (hv : v < m) : w.cell? ⟨gm, v, none⟩ = some (.int .i64 (M.getD v 0)) := by
  rw [h.cellAt v (by omega), ints_at M v (by omega)]
  simp [List.getD, show v < M.length by omega]
theorem cell_row {w : World} {base n c : Nat} {A : Option Addr} {l : List Int} (h : w.ownsRow base 3 1 (.slice A n c) n (ints l)) (hl : l.length = n) {i : Nat} (hi : i < n) : ∃ g, A = some ⟨g, 0, none⟩ ∧ base ≤ g ∧ g < w.heap.size ∧ ∀ k, k < n → w.cell? ⟨g, k, none⟩ = some (.int .i64 (l.getD k 0)) := by
  obtain ⟨g, rfl, h1, h2⟩ := own_head h (by omega)
  refine ⟨g, rfl, h1, h2, fun k hk => ?_⟩
  rw [h.cellAt k (by omega), ints_at l k (by omega)]
  simp [List.getD, show k < l.length by omega]

theorem cell_on {w w' : World} {p : Addr} {v : Value} (hb : Below w.heap.size w w') (h : w.cell? p = some v) : w'.cell? p = some v := by
  rw [hb.cell (World.block_lt_of_cell? _ _ h)]
  exact h

set_option maxRecDepth 100000 in
set_option maxHeartbeats 8000000 in
theorem rLoop_any (B : Nat) (A : Option Addr) (c : Nat) (n : Int) (L : List T3) (R : List Int) (E : Int) (w : World) (hA : At B w A (t3s L)) (hB : B ≤ w.heap.size) (hl : L.length ≤ 9000000000000000000) (hR : LoopIs n L R E) :
    Calls Try.prog 35 #[.int .i64 n, .slice A L.length c] w (IntsE R E w) := by
  cases hR with
  | bad h0 =>
    have hne : (chkN n L != 0) = true := by simpa using h0
    go_enter Try.func35, Try.ntmps35
    go_wp2_with fail
    refine (rcheckN_any B A c n L _ hA hB hl).mono ?_
    rintro e w1 ⟨rfl, hb1⟩
    go_wp2
    go_ret2
    exact IntsE.none hb1
  | none h0 hlast =>
    obtain ⟨m, rfl, hm, hlm, hL⟩ := chkN_ok h0
    have HC := Go.Lib.hid (fun w h1 h2 => h0 ▸ rcheckN_any B A c (m : Int) L w h1 h2 hl)
    have HR := Go.Lib.hid (fun w h1 h2 => rrounds_any B A c m L w h1 h2 hm hlm hL)
    simp only [Int.toNat_natCast] at hlast
    have hlz : (fin m L).last < 0 := by omega
    clear h0
    go_enter Try.func35, Try.ntmps35
    go_wp2_with fail
    refine (HC.out _ hA hB).mono ?_
    rintro e w1 ⟨rfl, hb1⟩
    have hA1 := hA.below (hb1.mono hB)
    have hs1 := hb1.size
    go_wp2_with fail
    refine (HR.out _ hA1 (by omega)).mono ?_
    rintro e w2 ⟨gx, gm, rfl, _, hox, _, hb2⟩
    go_wp2
    go_ret2
    exact IntsE.none (hb1.trans (hb2.mono hs1))
  | some h0 v p b t hv hlast hh hc hb =>
    obtain ⟨m, rfl, hm, hlm, hL⟩ := chkN_ok h0
    have HC := Go.Lib.hid (fun w h1 h2 => h0 ▸ rcheckN_any B A c (m : Int) L w h1 h2 hl)
    have HR := Go.Lib.hid (fun w h1 h2 => rrounds_any B A c m L w h1 h2 hm hlm hL)
    simp only [Int.toNat_natCast] at hlast hv hh hc hb ⊢
    unfold RRPost at HR
    have hml := (fin_len m L).2
    generalize fin m L = F at *
    rw [hlast] at HR
    have HO := Go.Lib.hid hL
    have HH := Go.Lib.hid hh
    have HCY := Go.Lib.hid hc
    have HB := Go.Lib.hid hb
    have hp0 := hc.pos
    have hpm := hc.le
    have hbp := hb.lt
    have hlv : ¬ (v : Int) < 0 := by omega
    obtain ⟨R, hR⟩ : ∃ R, loopL L F (itB L F m v) p b = R := ⟨_, rfl⟩
    have HOUT : Hid (R = outL L F (itB L F m v) p b p) := Go.Lib.hid hR.symm
    rw [hR]
    clear h0 hlast hL hh hc hb hR
    go_enter Try.func35, Try.ntmps35
    go_wp2_with fail
    refine (HC.out _ hA hB).mono ?_
    rintro e w1 ⟨rfl, hb1⟩
    have hA1 := hA.below (hb1.mono hB)
    have hs1 := hb1.size
    go_wp2_with fail
    refine (HR.out _ hA1 (by omega)).mono ?_
    rintro e w2 ⟨gx, gm, rfl, _, _, hom, hb2⟩
    have hs2 := hb2.size
    have hA2 := hA1.below (hb2.mono (by omega))
    have hb12 := hb1.trans (hb2.mono hs1)
    have hgm := (hom.lt gm rfl).2
    clear HC HR hA hA1 hb1 hb2
    have HOM := Go.Lib.hid hom
    clear hom
    go_wp2
    go_loop [9, 10] (fun v_ i => ∃ k : Nat, k ≤ m ∧ i = .int .i64 k ∧ v_ = .int .i64 (itB L F k v)) (fun _ i => m - (intOf i).toNat)
    case atStart => exact ⟨0, by omega, rfl, rfl⟩
    case round =>
      obtain ⟨k, hk, rfl, rfl⟩ := hrel
      by_cases hlt : k < m
      · have hli : (k : Int) < (m : Int) := by omega
        obtain ⟨j, hj⟩ := HH.out k hlt
        have hcm := cell_made HOM.out hml hj.vn
        rw [hj.made] at hcm
        obtain ⟨g, o, rfl, hg, c0, c1, c2⟩ := hA2.t3 hj.jl
        rw [← bk_at hj.jl] at c0 c1 c2
        obtain ⟨q1, q2, q3, q4⟩ := okB_pq HO.out hj.jl
        rw [← q3] at c0
        have HIT := Go.Lib.hid (it_succ hj)
        have hjl := hj.jl
        have hvn := hj.vn
        clear hj q3 q4 c1 c2
        generalize itB L F k v = vk at *
        go_wp2
        go_round
        case rel => exact ⟨k + 1, by omega, by go_num, by rw [HIT.out]⟩
        case measure => simp [intOf]; omega
      · have hlt' : ¬ ((k : Int) < (m : Int)) := by omega
        have hkm : k = m := by omega
        subst hkm
        obtain ⟨u, hu⟩ : ∃ u, itB L F k v = u := ⟨_, rfl⟩
        rw [hu] at HCY HB HOUT ⊢
        have HW2 := Go.Lib.hid (Below.refl w2.heap.size w2)
        clear HH hlt
        go_wp2
        go_loopw [11, 12] (fun b_ u_ wr => ∃ (a : Nat) (A' : Option Addr) (c' : Nat), a ≤ p ∧ u_ = .int .i64 (itB L F a u) ∧ b_ = .slice A' a c' ∧ Hid (wr.ownsRow w2.heap.size 3 1 (.slice A' a c') a (ints (backL L F u a))) ∧ Below w2.heap.size w2 wr) (fun b_ _ _ => p - lenV b_)
        case atStart => exact ⟨0, none, 0, by omega, rfl, rfl, Go.Lib.hid (World.ownsRow_nil _ _ _ _), HW2.out⟩
        case round =>
          clear HW2
          obtain ⟨a, A', c', ha, rfl, rfl, HOW, hbr⟩ := hrel
          have hsr := hbr.size
          by_cases hap : a < p
          · obtain ⟨j, hj⟩ := HCY.out.has a
            have hmd := hj.mdB
            have hcm2 := cell_made HOM.out hml hj.vn
            rw [hj.made] at hcm2
            obtain ⟨g, o, rfl, hg, c02, c12, c22⟩ := hA2.t3 hj.jl
            rw [← bk_at hj.jl] at c02
            obtain ⟨q1, q2, q3, q4⟩ := okB_pq HO.out hj.jl
            rw [← q3] at c02
            have HIT := Go.Lib.hid (it_succ hj)
            have hjl := hj.jl
            have hvn := hj.vn
            have hbs := backL_succ L F u a
            rw [hmd] at hbs
            have HBS := Go.Lib.hid hbs
            have hcm := cell_on hbr hcm2
            have c0 := cell_on hbr c02
            have HC2 := Go.Lib.hid hcm2
            have HC0 := Go.Lib.hid c02
            have hne : 0 < a → itB L F a u ≠ u := fun h => HCY.out.min a (by omega) hap
            have hz : a = 0 → itB L F a u = u := fun h => by rw [h]; rfl
            have hlm := backL_len L F u a
            clear hj q3 q4 hbs hcm2 c02 c12 c22 hmd
            generalize itB L F a u = ua at *
            generalize backL L F u a = M at *
            subst hlm
            rcases Nat.eq_zero_or_pos M.length with h0 | h0
            all_goals
              (first
                | (have hua := hz h0
                   have hM0 : ((M.length : Int) == 0) = true := by rw [h0]; rfl
                   subst hua
                   clear h0)
                | (have hua := hne h0
                   have hM0 : ((M.length : Int) == 0) = false := by rw [beq_eq_false_iff_ne]; omega
                   have hua2 : ¬ (ua : Int) = (u : Int) := by omega
                   have hua3 : ((ua : Int) != (u : Int)) = true := by simp; omega))
              clear hz hne
              go_wp2_with (first | (at_builtin; refine append_int rfl (.tmp 62) (.tmp 67) rfl w2.heap.size _ M (j : Int) wr.heap.size rfl rfl (HOW.out.alloc _) (by simp [go_sem]) ?_ ?_ ?_))
              · omega
              · simp; omega
              intro v2 w3 hown3 hg3 _
              obtain ⟨A2, c2, rfl⟩ := own_shape hown3
              have hb3 : Below w2.heap.size w2 w3 := (hbr.alloc hsr _).grown hg3 (by simp; omega) (own_ge HOW.out)
              have HO3 := Go.Lib.hid hown3
              clear hg3 HOW hown3 hcm c0
              have hcm := cell_on hb3 HC2.out
              have c0 := cell_on hb3 HC0.out
              go_wp2
              go_roundw
              case rel => exact ⟨M.length + 1, A2, c2, by omega, by rw [HIT.out], by first | rfl | (rw [List.length_append]; rfl), Go.Lib.hid (by rw [HBS.out]; first | exact HO3.out | (have := HO3.out; rw [List.length_append] at this; exact this)), hb3⟩
              case measure => simp [lenV]; omega
          · have hae : a = p := by omega
            subst hae
            have hub : itB L F a u = u := HCY.out.back
            rw [hub]
            have hM0 : ((a : Int) == 0) = false := by simp; omega
            have hM1 : ¬ (a : Int) = 0 := by omega
            have hsb := hbr.size
            have hw12 := hb12.trans (hbr.mono (by omega))
            have hsw : w.heap.size ≤ wr.heap.size := by omega
            obtain ⟨gb, rfl, hgb1, hgb2, hcb⟩ := cell_row HOW.out (backL_len _ _ _ _) hbp
            have HCB : Hid (∀ k, k < a → wr.cell? ⟨gb, k, none⟩ = some (.int .i64 (mdB L F u k))) := Go.Lib.hid fun k hk => by rw [hcb k hk, backL_at hk]
            have HB2 := Go.Lib.hid fun b' (h : Arg L F u a b') => Arg.uniq HCY.out HB.out h
            have HMD := Go.Lib.hid (Cyc.mod HCY.out)
            have HWB := Go.Lib.hid (Below.refl wr.heap.size wr)
            clear hcb HOW hbr hA2 hsr HOM
            go_wp2
            generalize hwb : wr = wb at *
            clear hwb
            go_loopw [13, 14] (fun b_ i_ wr => ∃ i b' : Nat, i ≤ a ∧ b' < a ∧ i_ = .int .i64 i ∧ b_ = .int .i64 b' ∧ Hid (∀ k, k < i → mdB L F u b' ≤ mdB L F u k) ∧ Below wb.heap.size wb wr) (fun _ i_ _ => a - (intOf i_).toNat)
            case atStart => exact ⟨0, 0, by omega, by omega, rfl, rfl, Go.Lib.hid fun k hk => by omega, HWB.out⟩
            case round =>
              clear HWB
              obtain ⟨i, b', hi, hb', rfl, rfl, HMN, hbr⟩ := hrel
              by_cases hia : i < a
              · have hli : (i : Int) < (a : Int) := by omega
                have x1 := cell_on hbr (HCB.out i hia)
                have x2 := cell_on hbr (HCB.out b' hb')
                have lx := World.block_lt_of_cell? _ _ x1
                have HN1 : Hid (mdB L F u i < mdB L F u b' → ∀ k, k < i + 1 → mdB L F u i ≤ mdB L F u k) := Go.Lib.hid fun h k hk => by
                  by_cases e : k = i
                  · rw [e]
                    exact Nat.le_refl _
                  · have := HMN.out k (by omega)
                    omega
                have HN2 : Hid (¬ mdB L F u i < mdB L F u b' → ∀ k, k < i + 1 → mdB L F u b' ≤ mdB L F u k) := Go.Lib.hid fun h k hk => by
                  by_cases e : k = i
                  · rw [e]
                    omega
                  · exact HMN.out k (by omega)
                obtain ⟨xi, hxi⟩ : ∃ xi, mdB L F u i = xi := ⟨_, rfl⟩
                obtain ⟨xb, hxb⟩ : ∃ xb, mdB L F u b' = xb := ⟨_, rfl⟩
                have HXI := Go.Lib.hid hxi
                have HXB := Go.Lib.hid hxb
                rw [hxi] at x1
                rw [hxb] at x2
                clear hxi hxb
                go_wp2
                by_cases hot : (xi : Int) < (xb : Int)
                · have HN3 := Go.Lib.hid (HN1.out (by rw [HXI.out, HXB.out]; omega))
                  refine region_ext mixed (by kernel_rfl) ?_
                  repeat (go_big_quiet_step (fail))
                  refine wpQuiet_nil ?_
                  intro w3 hb3
                  go_wp2
                  go_roundw
                  case rel => exact ⟨i + 1, i, by omega, by omega, by go_num, rfl, HN3, hbr.trans (hb3.mono hbr.size)⟩
                  case measure => simp [intOf]; omega
                · have HN3 := Go.Lib.hid (HN2.out (by rw [HXI.out, HXB.out]; omega))
                  have hcold : decide ((xi : Int) < (xb : Int)) = false := by simp; omega
                  refine region_ext mixed (by kernel_rfl) ?_
                  repeat (go_big_quiet_step (fail))
                  refine wpQuiet_nil ?_
                  intro w3 hb3
                  go_wp2
                  exact ⟨⟨i + 1, b', by omega, by omega, by go_num, rfl, HN3, hbr.trans (hb3.mono hbr.size)⟩, by simp [intOf]; omega⟩
              · have hia' : ¬ ((i : Int) < (a : Int)) := by omega
                have hbe := HB2.out b' ⟨hb', fun k hk => HMN.out k (by omega)⟩
                subst hbe
                clear HMN
                have hsx := hbr.size
                go_wp2
                go_loopw [15, 16] (fun o_ i_ wr => ∃ (i : Nat) (A' : Option Addr) (c' : Nat), i ≤ a ∧ i_ = .int .i64 i ∧ o_ = .slice A' i c' ∧ Hid (wr.ownsRow wb.heap.size 3 1 (.slice A' i c') i (ints (outL L F u a b' i))) ∧ Below wb.heap.size wb wr) (fun _ i_ _ => a - (intOf i_).toNat)
                case atStart => exact ⟨0, none, 0, by omega, rfl, rfl, Go.Lib.hid (World.ownsRow_nil _ _ _ _), hbr⟩
                case round =>
                  clear hbr hsx
                  obtain ⟨i, A', c', hi, rfl, rfl, HOW, hbr⟩ := hrel
                  have hsr := hbr.size
                  by_cases hia : i < a
                  · have hli : (i : Int) < (a : Int) := by omega
                    have hq : (b' + a - i) % a < a := Nat.mod_lt _ (by omega)
                    have x1 := cell_on hbr (HCB.out _ hq)
                    rw [HMD.out] at x1
                    have htm := tmod_is (b := b') (i := i) (p := a) (by omega) (by omega)
                    have HOS := Go.Lib.hid (outL_succ L F u a b' i)
                    have hlm := outL_len L F u a b' i
                    have hane : ¬ (a : Int) = 0 := by omega
                    generalize (b' + a - i) % a = q at *
                    generalize mdB L F u (b' + a - i) = y at *
                    generalize outL L F u a b' i = M at *
                    subst hlm
                    go_wp2_with (first | (at_builtin; refine append_int rfl (.tmp 91) (.tmp 104) rfl wb.heap.size _ M (y : Int) wr.heap.size rfl rfl (HOW.out.alloc _) (by simp [go_sem]) ?_ ?_ ?_))
                    · omega
                    · simp; omega
                    intro v2 w3 hown3 hg3 _
                    obtain ⟨A2, c2, rfl⟩ := own_shape hown3
                    have hb3 : Below wb.heap.size wb w3 := (hbr.alloc hsr _).grown hg3 (by simp; omega) (own_ge HOW.out)
                    have HO3 := Go.Lib.hid hown3
                    clear hg3 HOW hown3 x1
                    go_wp2
                    go_roundw
                    case rel => exact ⟨M.length + 1, A2, c2, by omega, by go_num, by first | rfl | (rw [List.length_append]; rfl), Go.Lib.hid (by rw [HOS.out]; first | exact HO3.out | (have := HO3.out; rw [List.length_append] at this; exact this)), hb3⟩
                    case measure => simp [intOf]; omega
                  · have hia' : ¬ ((i : Int) < (a : Int)) := by omega
                    have hie : i = a := by omega
                    subst hie
                    go_wp2
                    go_ret2
                    rw [HOUT.out]
                    exact IntsE.of (outL_len _ _ _ _ _ _) HOW.out hsw (hw12.trans (hbr.mono hsw))
end Go.Proofs.Ythannibclhidcaa
