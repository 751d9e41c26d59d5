/- Layer 9: the reference's Most. -/
import Derived.Test.YthannibclhidcaaLeM
namespace Go.Proofs.Ythannibclhidcaa
set_option linter.unusedVariables false
set_option linter.unusedSimpArgs false
open Go.RowKit
attribute [local go_sem] max_fold min_fold

theorem turn_take (L : List T3) (k : Nat) (h : k < L.length) : turnL (L.take (k + 1)) = turnL (L.take k) ++ [turn L[k]] := by
  unfold turnL
  rw [List.take_succ_eq_append_getElem h, List.map_append]
  rfl
theorem dn_step (c : Int) (l : List Int) (k : Nat) (h : k < l.length) : (dn c (l.take k) ++ l.drop k).set k (c - l.getD k 0) = dn c (l.take (k + 1)) ++ l.drop (k + 1) := by
  have h1 : (dn c (l.take k)).length = k := by rw [dn_len, List.length_take]; omega
  rw [List.set_append_right _ _ (by omega), h1, Nat.sub_self, List.take_succ_eq_append_getElem h, List.drop_eq_getElem_cons h]
  simp only [dn, List.map_append, List.map_cons, List.map_nil, List.set_cons_zero, List.append_assoc, List.cons_append, List.nil_append]
  simp [List.getD, h]
theorem dn_mid (c : Int) (l : List Int) (k : Nat) (h : k < l.length) : (dn c (l.take k) ++ l.drop k).getD k 0 = l.getD k 0 := by
  have h1 : (dn c (l.take k)).length = k := by rw [dn_len, List.length_take]; omega
  simp only [List.getD]
  rw [List.getElem?_append_right (by omega), h1, Nat.sub_self]
  simp [h]
theorem dn_mem (c : Int) (l : List Int) (k : Nat) (h : k < l.length) : c - l.getD k 0 ∈ dn c l := by
  unfold dn
  refine List.mem_map.2 ⟨l.getD k 0, mem_getD9 h, rfl⟩
theorem dn_snoc {c : Int} {l : List Int} {k : Nat} (h : k < l.length) {P : Int → Prop} (h1 : ∀ v ∈ dn c (l.take k), P v) (h2 : P (c - l.getD k 0)) : ∀ v ∈ dn c (l.take (k + 1)), P v := by
  intro v hv
  unfold dn at hv h1
  rw [List.take_succ_eq_append_getElem h, List.map_append] at hv
  rcases List.mem_append.1 hv with hv | hv
  · exact h1 v hv
  · simp at hv
    rw [hv]
    simpa [List.getD, h] using h2

set_option maxRecDepth 100000 in
set_option maxHeartbeats 8000000 in
theorem rMost_any (B : Nat) (A : Option Addr) (c : Nat) (n : Int) (L : List T3) (most : Int) (w : World) (hA : At B w A (t3s L)) (hB : B ≤ w.heap.size) (hl : L.length ≤ 9000000000000000000) :
    Calls Try.prog 44 #[.int .i64 n, .slice A L.length c, .int .i64 most] w (IntsE (topR n L most) (topE n L most) w) := by
  by_cases h0 : chkN n L = 0
  · obtain ⟨m, rfl, hm, hlm, hL⟩ := chkN_ok h0
    have HC := Go.Lib.hid (fun w h1 h2 => h0 ▸ rcheckN_any B A c (m : Int) L w h1 h2 hl)
    obtain ⟨v1, v2, v3⟩ := top_vals (most := most) h0
    cases hok : topOk most
    · obtain ⟨e1, e2⟩ := v1 hok
      rw [e1, e2]
      have hno := topOk_no hok
      clear v1 v2 v3 hok
      rcases hno with hno | hno
      · go_enter Try.func44, Try.ntmps44
        go_wp2_with fail
        refine (HC.out _ hA hB).mono ?_
        rintro e w1 ⟨rfl, hb1⟩
        go_wp2
        go_ret2
        exact IntsE.none hb1
      · have hno2 : ¬ most < 0 := by omega
        go_enter Try.func44, Try.ntmps44
        go_wp2_with fail
        refine (HC.out _ hA hB).mono ?_
        rintro e w1 ⟨rfl, hb1⟩
        go_wp2
        go_ret2
        exact IntsE.none hb1
    · have hyes := topOk_yes hok
      have hno1 : ¬ most < 0 := by omega
      have hno2 : ¬ 1099511627776 < most := by omega
      have hT0 : chkN m (turnL L) = 0 := by rw [chkN_turn]; exact h0
      have HSV := Go.Lib.hid fun (B : Nat) (A : Option Addr) (c : Nat) (w : World) (h1 : At B w A (t3s (turnL L))) (h2 : B ≤ w.heap.size) => rSolve_any B A c (m : Int) (turnL L) w h1 h2 (by rw [turnL_len]; omega)
      have hlt : (turnL L).length = L.length := turnL_len L
      have HTL := Go.Lib.hid hlt
      have HBIG : Hid ((solveE m (turnL L) = 0 ∧ solveR m (turnL L) = (fin m (turnL L)).x ∧ ((∀ v ∈ dn most (fin m (turnL L)).x, 0 ≤ v) → topE m L most = 0 ∧ topR m L most = dn most (fin m (turnL L)).x) ∧ (∀ v ∈ dn most (fin m (turnL L)).x, v < 0 → topE m L most = 90 ∧ topR m L most = [])) ∨ (solveE m (turnL L) = 90 ∧ topE m L most = 90 ∧ topR m L most = [])) := Go.Lib.hid (by
        by_cases hlast : (fin m L).last = -1
        · left
          obtain ⟨s1, s2⟩ := (solve_vals hT0).1 (fin_turn_ok hL hlast)
          obtain ⟨_, v5, v6⟩ := v3 hok hlast
          exact ⟨s1, s2, v5, v6⟩
        · right
          obtain ⟨s1, _⟩ := (solve_vals hT0).2 (fun h => hlast ((fin_turn_iff hL).1 h))
          obtain ⟨e1, e2⟩ := v2 hok hlast
          exact ⟨s1, e1, e2⟩)
      have hxlF := (fin_len m (turnL L)).1
      have HFB : Hid (∀ v, v < m → 0 ≤ (fin m (turnL L)).x.getD v 0 ∧ (fin m (turnL L)).x.getD v 0 ≤ 18000000000000) := Go.Lib.hid fun v hv => by
        have := fin_bd (okL_turn hL) hv
        rw [turnL_len] at this
        have h5 : m * L.length + L.length ≤ 4096 * 4096 + 4096 := Nat.add_le_add (Nat.mul_le_mul hm hlm) hlm
        have h6 : ((m * L.length + L.length : Nat) : Int) * 1048576 ≤ ((4096 * 4096 + 4096 : Nat) : Int) * 1048576 := Int.mul_le_mul_of_nonneg_right (by omega) (by omega)
        omega
      generalize topE m L most = E at *
      generalize topR m L most = R at *
      generalize fin m (turnL L) = F at *
      generalize solveE m (turnL L) = E2 at *
      generalize solveR m (turnL L) = X2 at *
      have HO := Go.Lib.hid hL
      obtain ⟨len, hlen⟩ : ∃ len, L.length = len := ⟨_, rfl⟩
      rw [hlen] at HC ⊢
      have HM := Go.Lib.hid hlen
      have hlm2 : len ≤ 4096 := by omega
      clear v1 v2 v3 hok hT0 hlt h0 hlen hl hlm hL
      go_enter Try.func44, Try.ntmps44
      go_wp2_with fail
      refine (HC.out _ hA hB).mono ?_
      rintro e w1 ⟨rfl, hb1⟩
      have hs1 := hb1.size
      have hA1 := hA.below (hb1.mono hB)
      clear HC hA
      go_wp2
      go_loopw [9, 10] (fun t_ i_ wr => ∃ (k : Nat) (A' : Option Addr) (c' : Nat), k ≤ len ∧ i_ = .int .i64 k ∧ t_ = .slice A' k c' ∧ Hid (wr.ownsRow w1.heap.size 54 3 (.slice A' k c') k (t3s (turnL (L.take k)))) ∧ Below w1.heap.size w1 wr) (fun _ i_ _ => len - (intOf i_).toNat)
      case atStart => exact ⟨0, none, 0, by omega, rfl, rfl, Go.Lib.hid (World.ownsRow_nil _ _ _ _), Below.refl _ _⟩
      case round =>
        obtain ⟨k, A', c', hk, rfl, rfl, HOW, hbr⟩ := hrel
        have hsr := hbr.size
        by_cases hlt : k < len
        · have hli : (k : Int) < (len : Int) := by omega
          have hkL : k < L.length := by have := HM.out; omega
          obtain ⟨g, o, rfl, hg, c0, c1, c2⟩ := (hA1.ext hbr).t3 hkL
          have HTT := Go.Lib.hid (turn_take L k hkL)
          have hlm' : (turnL (L.take k)).length = k := by rw [turnL_len, List.length_take]; omega
          have lg := World.block_lt_of_cell? _ _ c0
          clear hA1
          generalize L[k] = b at *
          obtain ⟨bp, bq, br⟩ := b
          simp only at c0 c1 c2
          generalize turnL (L.take k) = M at *
          subst hlm'
          go_wp2
          (apply region_make1 (Good := NewCells wr (fun b => .slice (some ⟨b, 0, none⟩) 1 1) #[.int .i64 bq, .int .i64 bp, .int .i64 br] 54) (W := wr) 18 17 mixed rfl rfl (by kernel_rfl) (by decide) NewCells.mono; (focus (intro V hV; have hsV := hV.size; obtain ⟨hcV, hfV⟩ := bcell hV; have zV_0 : g < V.heap.size := (by omega); have yV_0 : g < V.heap.size + 1 := (by omega); simp only [List.length_cons, List.length_nil, Nat.reduceAdd, Nat.reduceSub, List.take_succ_cons, List.take_zero, List.drop_succ_cons, List.drop_zero, List.cons_append, List.nil_append, List.append_nil]; (repeat (go_big_quiet_step (fail))); exact wpQuiet_nil rfl)); (focus (exact makes_new fun w => by simp [go_sem])); rintro v w3 ⟨b3, hge3, hlt3, hblk3, rfl⟩ hb3; have hs3 := hb3.size; obtain ⟨hc3, hf3⟩ := bcell hb3; have hk3 := blk_cell hblk3; have hl3 := blk_frozen hblk3; have zw3_0 : g < w3.heap.size := (by omega); have yw3_0 : g < w3.heap.size + 1 := (by omega); simp only [List.length_cons, List.length_nil, Nat.reduceAdd, Nat.reduceSub, List.take_succ_cons, List.take_zero, List.drop_succ_cons, List.drop_zero, List.cons_append, List.nil_append, List.append_nil])
          have HO3 := Go.Lib.hid (own_below' HOW.out hb3)
          have hbr3 := hbr.trans (hb3.mono hsr)
          have hsr3 := hbr3.size
          have e0 := hk3 0
          have e1 := hk3 1
          have e2 := hk3 2
          simp at e0 e1 e2
          clear HOW c0 c1 c2 lg hbr hb3 hc3 hf3 hk3 hl3 hblk3
          go_wp2_with (first | (at_builtin; refine append_bound rfl (.tmp 31) (.tmp 48) rfl w1.heap.size _ M ⟨bq, bp, br⟩ b3 rfl rfl HO3.out e0 e1 e2 ?_ ?_ ?_))
          · omega
          · (try simp); omega
          intro v2 w4 hown4 hg4 _
          obtain ⟨A2, c2, rfl⟩ := own_shape hown4
          have hb4 : Below w1.heap.size w1 w4 := hbr3.grown hg4 hsr3 (own_ge HO3.out)
          have HO4 := Go.Lib.hid hown4
          clear hg4 HO3 hown4
          go_wp2
          refine ⟨⟨M.length + 1, A2, c2, by omega, by go_num, by first | rfl | (rw [List.length_append]; rfl), Go.Lib.hid ?_, hb4⟩, by simp [intOf]; omega⟩
          rw [HTT.out]
          first | exact HO4.out | (have := HO4.out; rw [List.length_append] at this; exact this)
        · have hlt' : ¬ ((k : Int) < (len : Int)) := by omega
          have hkl : k = L.length := by have := HM.out; omega
          have hown : wr.ownsRow w1.heap.size 54 3 (.slice A' k c') k (t3s (turnL L)) := by
            have := HOW.out
            rwa [show L.take k = L by rw [hkl, List.take_length]] at this
          have hAT := At.of_own hown
          have HC2 := HSV.out wr.heap.size A' c' wr hAT (Nat.le_refl _)
          rw [HTL.out, ← hkl] at HC2
          have HC3 := Go.Lib.hid HC2
          have hbw := hb1.trans (hbr.mono hs1)
          have hsw := hbw.size
          clear HOW hown hAT HC2 HSV hkl hb1 hbr hA1
          go_wp2_with fail
          refine HC3.out.mono ?_
          rintro e w5 ⟨A5, c5, rfl, hown5, hb5⟩
          have hbw5 := hbw.trans (hb5.mono hsw)
          have hs5 := hb5.size
          rcases HBIG.out with ⟨rfl, rfl, h5, h6⟩ | ⟨rfl, rfl, rfl⟩
          · have H5 := Go.Lib.hid h5
            have H6 := Go.Lib.hid h6
            clear h5 h6 HBIG HC3
            rw [hxlF] at hown5 ⊢
            have HO5 : Hid (w5.ownsRow wr.heap.size 3 1 (.slice A5 m c5) m (ints (dn most (F.x.take 0) ++ F.x.drop 0))) := Go.Lib.hid hown5
            clear hown5
            go_wp2
            go_loopw [12] (fun i_ wq => ∃ k : Nat, k ≤ m ∧ i_ = .int .i64 k ∧ Hid (∀ v ∈ dn most (F.x.take k), 0 ≤ v) ∧ Hid (wq.ownsRow wr.heap.size 3 1 (.slice A5 m c5) m (ints (dn most (F.x.take k) ++ F.x.drop k))) ∧ Below wr.heap.size w5 wq) (fun i_ _ => m - (intOf i_).toNat)
            case atStart => exact ⟨0, by omega, rfl, Go.Lib.hid fun v hv => by simp [dn] at hv, HO5, Below.refl _ _⟩
            case round =>
              clear HO5
              obtain ⟨k2, hk2, rfl, HP, HW, hbq⟩ := hrel
              have hsq := hbq.size
              by_cases hlt2 : k2 < m
              · have hli2 : (k2 : Int) < (m : Int) := by omega
                have hkF : k2 < F.x.length := by omega
                have hll : (dn most (F.x.take k2) ++ F.x.drop k2).length = m := by simp [dn]; omega
                obtain ⟨g, rfl, hg1, hg2, hcell⟩ := cell_row HW.out hll hlt2
                have x1 := hcell k2 hlt2
                rw [dn_mid most F.x k2 hkF] at x1
                have f1 := HW.out.frozenAt k2
                have hst := own_store HW.out k2 (.int .i64 (most - F.x.getD k2 0))
                rw [ints_set, dn_step most F.x k2 hkF] at hst
                have hbs := hbq.setCell (p := ⟨g, k2, none⟩) hg1 (.int .i64 (most - F.x.getD k2 0))
                have hv6 := H6.out _ (dn_mem most F.x k2 hkF)
                have hsn := fun h => dn_snoc (c := most) (P := fun v => 0 ≤ v) hkF HP.out h
                have hz := HFB.out k2 (by omega)
                have HST := Go.Lib.hid hst
                have HV6 := Go.Lib.hid hv6
                have HSN := Go.Lib.hid hsn
                have HBS := Go.Lib.hid hbs
                clear hcell hst hbs hv6 hsn HW
                generalize F.x.getD k2 0 = z at *
                by_cases hneg : most - z < 0
                · obtain ⟨e1, e2⟩ := HV6.out hneg
                  subst e1 e2
                  go_wp2
                  go_ret2
                  exact IntsE.none (hbw5.trans (HBS.out.mono hsw))
                · have HP2 := Go.Lib.hid (HSN.out (by omega))
                  go_wp2
                  exact ⟨⟨k2 + 1, by omega, by go_num, HP2, HST, HBS.out⟩, by simp [intOf]; omega⟩
              · have hlt2' : ¬ ((k2 : Int) < (m : Int)) := by omega
                have hkm : k2 = m := by omega
                have htk : F.x.take k2 = F.x := by rw [hkm, ← hxlF, List.take_length]
                have hdr : F.x.drop k2 = [] := by rw [hkm, ← hxlF, List.drop_length]
                obtain ⟨e1, e2⟩ := H5.out (by have := HP.out; rwa [htk] at this)
                subst e1 e2
                have hfin := HW.out
                rw [htk, hdr, List.append_nil] at hfin
                have HFIN := Go.Lib.hid hfin
                clear hfin htk hdr HW HP
                go_wp2
                go_ret2
                exact IntsE.of (by rw [dn_len]; exact hxlF) HFIN.out hsw (hbw5.trans (hbq.mono hsw))
          · go_wp2
            go_ret2
            exact IntsE.none hbw5
  · have hne : (chkN n L != 0) = true := by simpa using h0
    have hne2 : (chkN n L == 0) = false := by simpa using h0
    have e1 : topE n L most = chkN n L := by simp [topE, h0]
    rw [e1, topR_nil (by rw [e1]; exact h0)]
    go_enter Try.func44, Try.ntmps44
    go_wp2_with fail
    refine (rcheckN_any B A c n L _ hA hB hl).mono ?_
    rintro e w1 ⟨rfl, hb1⟩
    go_wp2
    go_ret2
    exact IntsE.none hb1
end Go.Proofs.Ythannibclhidcaa
