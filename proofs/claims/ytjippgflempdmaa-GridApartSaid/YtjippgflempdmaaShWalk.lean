/- Layer 10: share. -/
import Derived.Test.YtjippgflempdmaaMgFlex
namespace Go.Proofs.Ytjippgflempdmaa
set_option linter.unusedVariables false
set_option linter.unusedSimpArgs false
set_option maxRecDepth 100000
open Go.RowKit
attribute [local go_sem] max_fold min_fold

set_option maxRecDepth 100000 in
set_option maxHeartbeats 8000000 in
theorem share_any (B : Nat) (A : Option Addr) (c : Nat) (L : List T3) (room : Int) (w : World) (hA : At B w A (t3s L)) (hB : B ≤ w.heap.size) (hl : L.length ≤ 1024) (hm : ∀ t ∈ L, mayT t = true) (hr : 0 ≤ room ∧ room ≤ 32768) :
    Calls Try.prog 84 #[.slice A L.length c, .int .i64 room] w (IntsPost (shareP L room) w) := by
  obtain ⟨n, hn⟩ : ∃ n, L.length = n := ⟨_, rfl⟩
  obtain ⟨res, hres⟩ : ∃ res, shareP L room = res := ⟨_, rfl⟩
  have HN := Go.Lib.hid hn
  have HM := Go.Lib.hid hm
  have HR := Go.Lib.hid hres
  have hln : n ≤ 1024 := by omega
  rw [hn, hres]
  clear hn hm hl hres
  go_enter Try.func84, Try.ntmps84
  go_wp2_with (first | (at_make; refine make_ints rfl (.tmp 26) (.tmp 26) rfl w.heap.size n rfl rfl ?_ ?_ ?_))
  · omega
  · omega
  intro w1 hown1 hgr1
  have hb1 : Below w.heap.size w w1 := (Below.refl _ _).grown hgr1 (Nat.le_refl _) (fun k hk => by cases hk)
  have hsz1 : w.heap.size < w1.heap.size := (hown1.lt w.heap.size rfl).2
  rw [replicate_range] at hown1
  have hm1 : ShMem B w A L n ((List.range n).map fun i => if i < 0 then (tk L i).p else 0) w1 := ⟨hb1, hA.below (hb1.mono hB), by simpa using hown1, hsz1⟩
  clear hgr1 hown1 hb1 hsz1 hA
  go_wp2
  go_loopw [6, 7, 31] (fun le pa i wr => ∃ (k : Nat), k ≤ n ∧ i = .int .i64 k ∧ le = .int .i64 (room - sumP (L.take k)) ∧ ShMem B w A L n ((List.range n).map fun i => if i < k then (tk L i).p else 0) wr ∧ PRow (w.heap.size + 1) wr pa ((List.range k).filter fun i => decide (0 < (tk L i).r))) (fun _ _ i _ => n - (intOf i).toNat)
  case atStart => exact ⟨0, by omega, rfl, by simp [sumP], hm1, PRow.nil _ _⟩
  case round =>
    clear hm1
    obtain ⟨k, hk, rfl, rfl, hmem, hp⟩ := hrel
    have hsr := hmem.size
    have hkL : (L.take k).length = k := by have := HN.out; rw [List.length_take]; omega
    have hsb := sumP_bd (L := L.take k) (fun t ht => HM.out t (List.mem_of_mem_take ht))
    rw [hkL] at hsb
    clear hkL
    by_cases hlt : k < n
    · have hli : (k : Int) < (n : Int) := by omega
      have hks : k < L.length := by have := HN.out; omega
      obtain ⟨g, o, rfl, hg, c0, c1, c2⟩ := hmem.arg.t3 hks
      have htb := track_bd HM.out hks
      have hsu := sumP_take L k hks
      have hst := start_take L k
      have htk := tk_at hks
      rw [← htk] at c0 c1 c2 htb hsu
      obtain ⟨co, fo⟩ := hmem.cell (i := k) (by simpa using hlt) (by simp)
      have lto : w.heap.size < wr.heap.size := by omega
      have hmem2 := (hmem.store hB k (tk L k).p).alloc hB (.cells #[.int .i64 (tk L k).p, .int .i64 (tk L k).q, .int .i64 (tk L k).r] 99)
      rw [set_range] at hmem2
      have hpe : ((List.range n).map fun i => if i = k then (tk L k).p else if i < k then (tk L i).p else 0) = (List.range n).map fun i => if i < k + 1 then (tk L i).p else 0 := map_range_congr fun i _ => by
        by_cases e : i = k
        · subst e
          simp
        · have : (i < k + 1) = (i < k) := by simp; omega
          simp [e, this]
      rw [hpe] at hmem2
      have hp2 := (hp.store (b := w.heap.size) (by omega) k (.int .i64 (tk L k).p)).alloc (.cells #[.int .i64 (tk L k).p, .int .i64 (tk L k).q, .int .i64 (tk L k).r] 99)
      have hPl : ((List.range k).filter fun i => decide (0 < (tk L i).r)).length ≤ k := by
        have := List.length_filter_le (fun i => decide (0 < (tk L i).r)) (List.range k)
        simpa using this
      have HS := Go.Lib.hid hsu
      have HST := Go.Lib.hid hst
      have HMEM := Go.Lib.hid hmem2
      have HP := Go.Lib.hid hp2
      clear hsu hst htk hmem hp hmem2 hp2 hpe
      generalize (List.range n).map (fun i => if i < k then (tk L i).p else 0) = O at *
      generalize (List.range k).filter (fun i => decide (0 < (tk L i).r)) = P at *
      generalize tk L k = t at *
      generalize sumP (L.take k) = S at *
      by_cases hpos : 0 < t.r
      · obtain ⟨AP, cP, rfl, hown⟩ := HP.out
        rw [← nats_len P] at hown ⊢
        go_wp2_with (first | (at_builtin; refine append_int rfl (.tmp 48) (.tmp 50) rfl (w.heap.size + 1) _ (nats P) (k : Int) (wr.heap.size + 1) rfl rfl (hown.alloc _) (by simp [go_sem]) ?_ ?_ ?_))
        · rw [nats_len]; omega
        · simp; omega
        intro v2 w2 hown2 hg2 _
        have hmem3 := (HMEM.out.alloc hB _).grown hB hg2 (own_ge hown)
        have hp3 : PRow (w.heap.size + 1) w2 v2 (P ++ [k]) :=
           PRow.of_own hown2 (by simp [nats]) (by rw [nats_append]; rfl)
        clear hown hown2 hg2 HMEM HP
        go_wp2
        go_roundw
        case rel => exact ⟨k + 1, by omega, by go_num, by rw [HS.out, Int.sub_sub], hmem3, by rw [HST.out, if_pos hpos]; exact hp3⟩
        case measure => simp [intOf]; omega
      · have hneg : t.r ≤ 0 := by omega
        go_wp2
        go_roundw
        case rel => exact ⟨k + 1, by omega, by go_num, by rw [HS.out, Int.sub_sub], HMEM.out, by rw [HST.out, if_neg hpos, List.append_nil]; exact HP.out⟩
        case measure => simp [intOf]; omega
    · have hlt' : ¬ ((k : Int) < (n : Int)) := by omega
      have hkn : k = n := by omega
      have hLn : L.take k = L := List.take_of_length_le (by have := HN.out; omega)
      have hall : ((List.range n).map fun i => if i < k then (tk L i).p else 0) = L.map (·.p) := by
        rw [← init_all, HN.out]
        exact map_range_congr fun i hi => by rw [if_pos (by omega)]
      have hsta : ((List.range k).filter fun i => decide (0 < (tk L i).r)) = startP L := by
        unfold startP
        rw [hkn, HN.out]
      rw [hall] at hmem
      rw [hsta] at hp
      rw [hLn] at hsb
      rw [hLn]
      clear hall hsta hLn
      by_cases hneg : room - sumP L ≤ 0
      · go_wp2
        go_ret
        rw [← HR.out]
        rw [show shareP L room = L.map (·.p) by simp [shareP, hneg]]
        have hlen : (L.map (·.p)).length = n := by simp [HN.out]
        exact IntsPost.mk hlen hmem.out hmem.below
      · have hinv := ShInv.start HM.out hr hneg
        have hro : ∃ f, (startP L).length < f ∧ roundsP L f (room - sumP L) (startP L) (L.map (·.p)) = res := ⟨L.length + 1, by have := hinv.plen; omega, by rw [← HR.out]; simp [shareP, hneg]⟩
        have HI := Go.Lib.hid hinv
        have HRO := Go.Lib.hid hro
        clear hinv hro
        generalize room - sumP L = left0 at *
        generalize startP L = P0 at *
        generalize L.map (·.p) = O0 at *
        go_wp2
        go_loopw [6, 7] (fun le pa wr => ∃ (left : Int) (P : List Nat) (O : List Int), le = .int .i64 left ∧ ShMem B w A L n O wr ∧ PRow (w.heap.size + 1) wr pa P ∧ Hid (ShInv L left P O) ∧ Hid (∃ f, P.length < f ∧ roundsP L f left P O = res)) (fun _ pa _ => match pa with | .slice _ m _ => m | _ => 0)
        case atStart => exact ⟨left0, P0, O0, rfl, hmem, hp, HI, HRO⟩
        case round =>
          clear hmem hp HI HRO
          obtain ⟨left, P, O, rfl, hmem, ⟨AP, cP, rfl, hown⟩, HI, HRO⟩ := hrel
          obtain ⟨wo, rfl⟩ : ∃ wo : World, wo = wr := ⟨_, rfl⟩
          have hso := hmem.size
          by_cases hP : P = []
          · subst hP
            have hO := rounds_none HRO.out
            subst hO
            go_wp2
            go_ret
            exact IntsPost.mk (by rw [HI.out.len, HN.out]) hmem.out hmem.below
          · have hpos : 0 < P.length := List.length_pos_iff.2 hP
            have hposi : (0 : Int) < (P.length : Int) := by omega
            have hpl : P.length ≤ n := by rw [← HN.out]; exact HI.out.plen
            have hleft := HI.out.left
            have hgb := g_bd HI.out
            obtain ⟨gp, rfl, hgp1, hgp2⟩ := own_head hown hpos
            have hidx : ∀ (k : Nat) (h : k < P.length), P[k] < n := fun k h => by rw [← HN.out]; exact (HI.out.idx _ (List.getElem_mem h)).1
            have HX := Go.Lib.hid hidx
            have HPN := Go.Lib.hid hP
            clear hidx hP
            go_wp2
            go_loop [10, 61] (fun g i => ∃ k : Nat, k ≤ P.length ∧ i = .int .i64 k ∧ g = .int .i64 (gP L (P.take k))) (fun _ i => P.length - (intOf i).toNat)
            case atStart => exact ⟨0, by omega, rfl, rfl⟩
            case round =>
              obtain ⟨k, hk, rfl, rfl⟩ := hrel
              have hgk : 0 ≤ gP L (P.take k) ∧ gP L (P.take k) ≤ k * 16384 := by
                have := sumN_bd (f := fun i => (tk L i).r) (c := 0) (d := 16384) (P := P.take k) (fun i _ => (tk_bd HM.out i).2.2)
                have h2 : (P.take k).length = k := by rw [List.length_take]; omega
                rw [h2] at this
                unfold gP
                omega
              by_cases hlt : k < P.length
              · have hli : (k : Int) < (P.length : Int) := by omega
                have hj := HX.out k hlt
                have hgt := g_take L P k hlt
                have hpc := parts_cell hown hlt
                generalize P[k] = j at *
                have hji : (j : Int) < (n : Int) := by omega
                obtain ⟨g, o, rfl, hg, c0, c1, c2⟩ := arg_cells hmem.arg (show j < L.length by have := HN.out; omega)
                have htb := tk_bd HM.out j
                generalize tk L j = t at *
                have HGT := Go.Lib.hid hgt
                clear hgt
                generalize gP L (P.take k) = G at *
                go_wp2
                go_round
                case rel => exact ⟨k + 1, by omega, by go_num, by rw [HGT.out]⟩
                case measure => simp [intOf]; omega
              · have hlt' : ¬ ((k : Int) < (P.length : Int)) := by omega
                have hkn : k = P.length := by omega
                have hG : gP L (P.take k) = gP L P := by rw [hkn, List.take_length]
                rw [hG]
                obtain ⟨G, hGe⟩ : ∃ G, gP L P = G := ⟨_, rfl⟩
                rw [hGe] at hgb ⊢
                have HG := Go.Lib.hid hGe
                clear hGe hG hgk
                go_wp2
                go_loopw [13, 14, 75] (fun re us i wr => ∃ k : Nat, k ≤ P.length ∧ i = .int .i64 k ∧ us = .int .i64 (usedP L left G (P.take k)) ∧ ShMem B w A L n ((P.take k).foldl (fillO L left G) O) wr ∧ wr.ownsRow (w.heap.size + 1) 3 1 (.slice (some ⟨gp, 0, none⟩) P.length cP) P.length (ints (nats P)) ∧ PRow wo.heap.size wr re (restP L left G (P.take k)) ∧ wo.heap.size ≤ wr.heap.size) (fun _ _ i _ => P.length - (intOf i).toNat)
                case atStart => exact ⟨0, by omega, rfl, rfl, hmem, hown, PRow.nil _ _, Nat.le_refl _⟩
                case round =>
                  clear hmem hown hk hlt hlt' hkn
                  obtain ⟨k, hk, rfl, rfl, hmem, hown, hp, hsw⟩ := hrel
                  have hsr := hmem.size
                  have hub := used_rough HM.out left G (P.take k)
                  have hkl : (P.take k).length = k := by rw [List.length_take]; omega
                  rw [hkl] at hub
                  clear hkl
                  by_cases hlt : k < P.length
                  · have hli : (k : Int) < (P.length : Int) := by omega
                    have hj := HX.out k hlt
                    have hut := used_take L left G P k hlt
                    have hrt := rest_take L left G P k hlt
                    have hft := foldl_take (fillO L left G) O P k hlt
                    have hpc := parts_cell hown hlt
                    have hlenO : ((P.take k).foldl (fillO L left G) O).length = n := by rw [fold_len _ (fill_len L left G), HI.out.len, HN.out]
                    generalize P[k] = j at *
                    have hji : (j : Int) < (n : Int) := by omega
                    obtain ⟨g, o, rfl, hg, c0, c1, c2⟩ := arg_cells hmem.arg (show j < L.length by have := HN.out; omega)
                    have htb := tk_bd HM.out j
                    obtain ⟨co, fo⟩ := hmem.cell (i := j) (by omega) hlenO
                    have lto : w.heap.size < wr.heap.size := by omega
                    have hm1 := mul_bd hleft htb.2.2
                    have hm0 : (-274877906944 ≤ G * ((tk L j).q - (tk L j).p)) ∧ G * ((tk L j).q - (tk L j).p) ≤ 274877906944 := by
                      have := mul_bd2 (a := G) (b := (tk L j).q - (tk L j).p) (c := 16777216) (d := 16384) (by omega) (by omega)
                      omega
                    have hfp : fullP L left G j = (!((tk L j).q == 0) && decide (G * ((tk L j).q - (tk L j).p) ≤ left * (tk L j).r)) := rfl
                    have hfo : fillO L left G ((P.take k).foldl (fillO L left G) O) j = if fullP L left G j then ((P.take k).foldl (fillO L left G) O).set j (tk L j).q else ((P.take k).foldl (fillO L left G) O) := rfl
                    rw [hfo] at hft
                    clear hfo
                    generalize usedP L left G (P.take k) = U at *
                    have hrl0 : (restP L left G (P.take k)).length ≤ 1024 := by
                      have h1 := rest_le L left G (P.take k)
                      rw [List.length_take] at h1
                      omega
                    generalize restP L left G (P.take k) = R at *
                    generalize (P.take k).foldl (fillO L left G) O = Ok at *
                    cases hfull : fullP L left G j
                    · rw [hfull] at hut hrt hft hfp
                      simp only [Bool.false_eq_true, if_false] at hut hrt hft
                      obtain ⟨AR, cR, rfl, hownR⟩ := hp
                      have hrl := hrl0
                      have hgt2 : (tk L j).q = 0 ∨ ((tk L j).q ≠ 0 ∧ left * (tk L j).r < G * ((tk L j).q - (tk L j).p)) := by
                        simp at hfp
                        by_cases e : (tk L j).q = 0
                        · exact .inl e
                        · exact .inr ⟨e, hfp e⟩
                      have HUT := Go.Lib.hid hut
                      have HRT := Go.Lib.hid hrt
                      have HFT := Go.Lib.hid hft
                      clear hut hrt hft hfp hfull
                      rw [← nats_len R] at hownR ⊢
                      generalize tk L j = t at *
                      obtain ⟨tp, tq, tr⟩ := t
                      simp only at c0 c1 c2 htb hm0 hm1 hgt2
                      rcases hgt2 with hq | ⟨hq, hlt4⟩
                      · subst hq
                        go_wp2_with (first | (at_builtin; refine append_int rfl (.tmp 109) (.tmp 111) rfl wo.heap.size _ (nats R) (j : Int) (wr.heap.size + 1) rfl rfl ((hownR.alloc _).alloc _) (by simp [go_sem]) ?_ ?_ ?_))
                        · rw [nats_len]; exact Nat.le_trans hrl (by omega)
                        · first | omega | (simp; omega)
                        intro v2 w2 hown2 hg2 _
                        have hmem3 := ((hmem.alloc hB _).alloc hB _).grown hB hg2 (fun k hk => by have := own_ge hownR k hk; omega)
                        have hown3 := own_kept ((hown.alloc _).alloc _) hg2 (base' := wo.heap.size) (fun k hk => by simp [Value.ownBlock] at hk; omega) (own_ge hownR)
                        have hp3 : PRow wo.heap.size w2 v2 (R ++ [j]) := PRow.of_own hown2 (by simp [nats]) (by rw [nats_append]; rfl)
                        have hs2 := hg2.size
                        try simp at hs2
                        clear hownR hown2 hg2 hmem hown
                        go_wp2
                        go_roundw
                        case rel => exact ⟨k + 1, by omega, by go_num, by rw [HUT.out, Int.add_zero], by rw [HFT.out]; exact hmem3, hown3, by rw [HRT.out]; exact hp3, by omega⟩
                        case measure => simp [intOf]; omega
                      · have hqb : (tq != 0) = true := by simpa using hq
                        go_wp2_with (first | (at_builtin; refine append_int rfl (.tmp 109) (.tmp 111) rfl wo.heap.size _ (nats R) (j : Int) (wr.heap.size + 1) rfl rfl ((hownR.alloc _).alloc _) (by simp [go_sem]) ?_ ?_ ?_))
                        · rw [nats_len]; exact Nat.le_trans hrl (by omega)
                        · first | omega | (simp; omega)
                        intro v2 w2 hown2 hg2 _
                        have hmem3 := ((hmem.alloc hB _).alloc hB _).grown hB hg2 (fun k hk => by have := own_ge hownR k hk; omega)
                        have hown3 := own_kept ((hown.alloc _).alloc _) hg2 (base' := wo.heap.size) (fun k hk => by simp [Value.ownBlock] at hk; omega) (own_ge hownR)
                        have hp3 : PRow wo.heap.size w2 v2 (R ++ [j]) := PRow.of_own hown2 (by simp [nats]) (by rw [nats_append]; rfl)
                        have hs2 := hg2.size
                        try simp at hs2
                        clear hownR hown2 hg2 hmem hown
                        go_wp2
                        go_roundw
                        case rel => exact ⟨k + 1, by omega, by go_num, by rw [HUT.out, Int.add_zero], by rw [HFT.out]; exact hmem3, hown3, by rw [HRT.out]; exact hp3, by omega⟩
                        case measure => simp [intOf]; omega
                    · rw [hfull] at hut hrt hft hfp
                      simp only [if_true] at hut hrt hft
                      have hq : ((tk L j).q != 0) = true := by
                        simp at hfp
                        simpa using hfp.1
                      have hge : G * ((tk L j).q - (tk L j).p) ≤ left * (tk L j).r := by
                        simp at hfp
                        exact hfp.2
                      have hmem2 := (hmem.store hB j (tk L j).q).alloc hB (.cells #[.int .i64 (tk L j).p, .int .i64 (tk L j).q, .int .i64 (tk L j).r] 99)
                      have hown2 := (own_off hown (g := w.heap.size) (j := j) (u := .int .i64 (tk L j).q) (fun e => by simp [Value.ownBlock] at e; omega)).alloc (.cells #[.int .i64 (tk L j).p, .int .i64 (tk L j).q, .int .i64 (tk L j).r] 99)
                      have hp2 := (hp.store (b := w.heap.size) (by omega) j (.int .i64 (tk L j).q)).alloc (.cells #[.int .i64 (tk L j).p, .int .i64 (tk L j).q, .int .i64 (tk L j).r] 99)
                      have HMEM := Go.Lib.hid hmem2
                      have HOWN := Go.Lib.hid hown2
                      have HP := Go.Lib.hid hp2
                      have HUT := Go.Lib.hid hut
                      have HRT := Go.Lib.hid hrt
                      have HFT := Go.Lib.hid hft
                      clear hmem2 hown2 hp2 hut hrt hft hmem hown hp hfp hfull
                      generalize tk L j = t at *
                      go_wp2
                      go_roundw
                      case rel => exact ⟨k + 1, by omega, by go_num, by rw [HUT.out], by rw [HFT.out]; exact HMEM.out, HOWN.out, by rw [HRT.out, List.append_nil]; exact HP.out, by simp; omega⟩
                      case measure => simp [intOf]; omega
                  · have hlt' : ¬ ((k : Int) < (P.length : Int)) := by omega
                    have hkn : k = P.length := by omega
                    have hPt : P.take k = P := by rw [hkn, List.take_length]
                    rw [hPt] at hmem hp hub ⊢
                    clear hPt
                    by_cases hsame : (restP L left G P).length = P.length
                    · obtain ⟨AR, cR, rfl, hownR⟩ := hp
                      obtain ⟨hre, hnone⟩ := rest_same hsame
                      rw [fill_same hnone] at hmem
                      have hsp := spent_bd HI.out HPN.out
                      rw [HG.out] at hsp
                      have hdone := rounds_done HRO.out HPN.out (by rw [HG.out]; exact hsame)
                      unfold doneP at hdone
                      rw [HG.out] at hdone
                      have hlr : ∀ i ∈ P, (tk L i).r ≤ G := fun i hi => HG.out ▸ member_le HM.out hi
                      have hpd : ∀ i ∈ P, 0 ≤ left * (tk L i).r / G ∧ left * (tk L i).r / G ≤ 32768 := fun i hi => by
                        have := part_bd (L := L) (left := left) (g := G) hleft.1 (i := i) (tk_bd HM.out i).2.2.1 (hlr i hi) (by omega)
                        omega
                      have hgo := fun k => grow_out (L := L) (left := left) (g := G) (P.take k) (fun i hi => hpd i (List.mem_of_mem_take hi)) O 16384 (by omega) HI.out.out
                      have hlenO := HI.out.len
                      rw [HN.out] at hlenO
                      have HPD := Go.Lib.hid hpd
                      have HGO := Go.Lib.hid hgo
                      have HD := Go.Lib.hid hdone
                      have HSP := Go.Lib.hid hsp
                      have hbw := hmem.below
                      clear hre hnone hpd hgo hdone hlr HI HRO hsp
                      have hsi : ((restP L left G P).length : Int) = (P.length : Int) := by omega
                      rw [hsame] at hownR ⊢
                      clear hsame hsi hownR
                      go_wp2
                      go_loopw [19, 122] (fun ov i wr => ∃ k : Nat, k ≤ P.length ∧ i = .int .i64 k ∧ ov = .int .i64 (left - spentP L left G (P.take k)) ∧ ShMem B w A L n ((P.take k).foldl (growO L left G) O) wr ∧ wr.ownsRow (w.heap.size + 1) 3 1 (.slice (some ⟨gp, 0, none⟩) P.length cP) P.length (ints (nats P))) (fun _ i _ => P.length - (intOf i).toNat)
                      case atStart => exact ⟨0, by omega, rfl, by simp [spentP, sumN], hmem, hown⟩
                      case round =>
                        clear hmem hown hk hlt hlt' hkn
                        obtain ⟨k, hk, rfl, rfl, hmem, hown⟩ := hrel
                        have hsr := hmem.size
                        have hkl : (P.take k).length = k := by rw [List.length_take]; omega
                        have hsk : 0 ≤ spentP L left G (P.take k) ∧ spentP L left G (P.take k) ≤ k * 32768 := by
                          have := sumN_bd (f := fun i => left * (tk L i).r / G) (c := 0) (d := 32768) (P := P.take k) (fun i hi => HPD.out i (List.mem_of_mem_take hi))
                          rw [hkl] at this
                          unfold spentP
                          omega
                        by_cases hlt : k < P.length
                        · have hli : (k : Int) < (P.length : Int) := by omega
                          have hj := HX.out k hlt
                          have hst := spent_take L left G P k hlt
                          have hft := foldl_take (growO L left G) O P k hlt
                          have hpc := parts_cell hown hlt
                          have hlenk : ((P.take k).foldl (growO L left G) O).length = n := by rw [fold_len _ (grow_len L left G), hlenO]
                          have hpj := HPD.out P[k] (List.getElem_mem hlt)
                          generalize P[k] = j at *
                          have hji : (j : Int) < (n : Int) := by omega
                          obtain ⟨g, o, rfl, hg, c0, c1, c2⟩ := arg_cells hmem.arg (show j < L.length by have := HN.out; omega)
                          have htb := tk_bd HM.out j
                          obtain ⟨co, fo⟩ := hmem.cell (i := j) (by omega) hlenk
                          have lto : w.heap.size < wr.heap.size := by omega
                          have hm1 := mul_bd hleft htb.2.2
                          have hob := getD_mem (Q := fun o => 0 ≤ o ∧ o ≤ 33571000) (O := (P.take k).foldl (growO L left G) O) (fun o ho => by
                            have := HGO.out k o ho
                            rw [hkl] at this
                            omega) (by omega) j
                          have hfo : growO L left G ((P.take k).foldl (growO L left G) O) j = ((P.take k).foldl (growO L left G) O).set j (((P.take k).foldl (growO L left G) O).getD j 0 + left * (tk L j).r / G) := rfl
                          rw [hfo] at hft
                          clear hfo hkl
                          have hmem2 := hmem.store hB j (((P.take k).foldl (growO L left G) O).getD j 0 + left * (tk L j).r / G)
                          have hown2 := own_off hown (g := w.heap.size) (j := j) (u := .int .i64 (((P.take k).foldl (growO L left G) O).getD j 0 + left * (tk L j).r / G)) (fun e => by simp [Value.ownBlock] at e; omega)
                          rw [← hft] at hmem2
                          have HMEM := Go.Lib.hid hmem2
                          have HOWN := Go.Lib.hid hown2
                          have HST := Go.Lib.hid hst
                          clear hmem2 hown2 hst hft hmem hown
                          generalize spentP L left G (P.take k) = U at *
                          generalize ((P.take k).foldl (growO L left G) O).getD j 0 = ov at *
                          generalize tk L j = t at *
                          have hGpos : 0 < G := by omega
                          have hquo : (left * t.r).tdiv G = left * t.r / G := Int.tdiv_eq_ediv_of_nonneg hm1.1
                          go_wp2
                          go_roundw
                          case rel => exact ⟨k + 1, by omega, by go_num, by rw [HST.out, Int.sub_sub], HMEM.out, HOWN.out⟩
                          case measure => simp [intOf]; omega
                        · have hlt' : ¬ ((k : Int) < (P.length : Int)) := by omega
                          have hkn : k = P.length := by omega
                          have hPt : P.take k = P := by rw [hkn, List.take_length]
                          rw [hPt] at hmem hsk ⊢
                          have hsp := HSP.out
                          have hgo := HGO.out P.length
                          rw [List.take_length] at hgo
                          have hgo' : ∀ o ∈ P.foldl (growO L left G) O, 0 ≤ o ∧ o ≤ 33571000 := fun o ho => by
                            have := hgo o ho
                            omega
                          obtain ⟨m, hme⟩ : ∃ m : Nat, left - spentP L left G P = (m : Int) := ⟨(left - spentP L left G P).toNat, by omega⟩
                          have hd := HD.out
                          rw [hme, Int.toNat_natCast] at hd
                          have hlen5 : (P.foldl (growO L left G) O).length = n := by rw [fold_len _ (grow_len L left G), hlenO]
                          have hmP : m ≤ P.length := by omega
                          have hmi : (m : Int) ≤ (P.length : Int) := by omega
                          have hcP : P.length ≤ cP := by
                            rcases hown.2 with ⟨h1, _⟩ | ⟨g', cap, cur, hv, _, _, hc, _⟩
                            · cases h1
                            · injection hv with _ _ h3
                              omega
                          have hcPi : (m : Int) ≤ (cP : Int) := by omega
                          rw [hme]
                          have HD2 := Go.Lib.hid hd
                          have HG5 := Go.Lib.hid hgo'
                          clear hPt hsp hgo hgo' hme hd HD HGO HSP hsk HPD
                          generalize P.foldl (growO L left G) O = O5 at *
                          go_wp2
                          go_loopw [150] (fun i wr => ∃ k : Nat, k ≤ m ∧ i = .int .i64 k ∧ ShMem B w A L n ((P.take k).foldl bumpO O5) wr ∧ wr.ownsRow (w.heap.size + 1) 3 1 (.slice (some ⟨gp, 0, none⟩) P.length cP) P.length (ints (nats P))) (fun i _ => m - (intOf i).toNat)
                          case atStart => exact ⟨0, by omega, rfl, hmem, hown⟩
                          case round =>
                            clear hmem hown hk hlt hlt' hkn
                            obtain ⟨k, hk, rfl, hmem, hown⟩ := hrel
                            have hsr := hmem.size
                            by_cases hlt : k < m
                            · have hli : (k : Int) < (m : Int) := by omega
                              have hkP : k < P.length := by omega
                              have hj := HX.out k hkP
                              have hft := foldl_take bumpO O5 P k hkP
                              have hpc := parts_cell hown hkP
                              have hlenk : ((P.take k).foldl bumpO O5).length = n := by rw [fold_len _ bump_len, hlen5]
                              generalize P[k] = j at *
                              have hji : (j : Int) < (n : Int) := by omega
                              obtain ⟨co, fo⟩ := hmem.cell (i := j) (by omega) hlenk
                              have lto : w.heap.size < wr.heap.size := by omega
                              have hob := getD_mem (Q := fun o => 0 ≤ o ∧ o ≤ 33573000) (O := (P.take k).foldl bumpO O5) (fun o ho => by
                                have h1 := bump_out (P.take k) O5 33571000 (by omega) HG5.out o ho
                                have h2 : (P.take k).length ≤ 1024 := by rw [List.length_take]; omega
                                omega) (by omega) j
                              have hfo : bumpO ((P.take k).foldl bumpO O5) j = ((P.take k).foldl bumpO O5).set j (((P.take k).foldl bumpO O5).getD j 0 + 1) := rfl
                              rw [hfo] at hft
                              clear hfo
                              have hmem2 := hmem.store hB j (((P.take k).foldl bumpO O5).getD j 0 + 1)
                              have hown2 := own_off hown (g := w.heap.size) (j := j) (u := .int .i64 (((P.take k).foldl bumpO O5).getD j 0 + 1)) (fun e => by simp [Value.ownBlock] at e; omega)
                              rw [← hft] at hmem2
                              have HMEM := Go.Lib.hid hmem2
                              have HOWN := Go.Lib.hid hown2
                              clear hmem2 hown2 hft hmem hown
                              generalize ((P.take k).foldl bumpO O5).getD j 0 = ov at *
                              go_wp2
                              go_roundw
                              case rel => exact ⟨k + 1, by omega, by go_num, HMEM.out, HOWN.out⟩
                              case measure => simp [intOf]; omega
                            · have hlt' : ¬ ((k : Int) < (m : Int)) := by omega
                              have hkm : k = m := by omega
                              subst hkm
                              have hd := HD2.out
                              rw [hd] at hmem
                              clear hd
                              have hrl : res.length = n := by rw [← HD2.out, fold_len _ bump_len, hlen5]
                              go_wp2
                              go_ret
                              exact IntsPost.mk hrl hmem.out hmem.below
                    · obtain ⟨AR, cR, rfl, hownR⟩ := hp
                      have hst := HI.out.step
                      have hub2 := used_bd HI.out
                      have hro := rounds_step HRO.out HPN.out (by rw [HG.out]; exact hsame)
                      rw [HG.out] at hst hub2 hro
                      have hsi : ((restP L left G P).length : Int) ≠ (P.length : Int) := by omega
                      have hsb : (((restP L left G P).length : Int) == (P.length : Int)) = false := by simpa using hsi
                      have hle := rest_le L left G P
                      have HST := Go.Lib.hid hst
                      have HRO2 := Go.Lib.hid hro
                      clear hst hro HI HRO
                      generalize usedP L left G P = U at *
                      generalize restP L left G P = R at *
                      generalize P.foldl (fillO L left G) O = O2 at *
                      go_wp2
                      go_roundw
                      case rel => exact ⟨left - U, R, O2, rfl, hmem, ⟨AR, cR, rfl, own_mono hownR hso⟩, HST, HRO2⟩
                      case measure => simp; omega
end Go.Proofs.Ytjippgflempdmaa
