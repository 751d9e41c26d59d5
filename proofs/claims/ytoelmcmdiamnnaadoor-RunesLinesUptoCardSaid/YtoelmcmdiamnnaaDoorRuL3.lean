/- Layer 3: the program's lines of a paragraph. (Printed by gen_l3.py.) -/
import Derived.Test.YtoelmcmdiamnnaaDoorRuL2
namespace Go.Proofs.YtoelmcmdiamnnaaDoor
set_option linter.unusedVariables false
set_option linter.unusedSimpArgs false
set_option maxRecDepth 100000
open Go.RowKit Go.Lib

theorem lnF_at (c : Int) (P : List (Nat × Nat)) {i k n bl : Nat} (hi : i < P.length) : lnF c k n bl (P.drop i) = if 1 ≤ k ∧ c < ((n + wid (P[i]'hi).2 : Nat) : Int) then (if (P[i]'hi).2 ≠ 32 ∧ 0 < bl then bl else k) else lnF c (k + 1) (n + wid (P[i]'hi).2) (if (P[i]'hi).2 = 32 then k + 1 else bl) (P.drop (i + 1)) := by
  rw [List.drop_eq_getElem_cons hi]
  rfl
theorem line_at (c : Int) (P : List (Nat × Nat)) {b : Nat} (hb : b < P.length) : line c (P.drop b) = lnF c 1 (wid (P[b]'hb).2) (if (P[b]'hb).2 = 32 then 1 else 0) (P.drop (b + 1)) := by
  rw [List.drop_eq_getElem_cons hb, line_cons]
theorem off_drop (P : List (Nat × Nat)) (b k : Nat) : off (P.drop b) k + off P b = off P (b + k) := by
  unfold off
  rw [List.take_add, List.map_append, List.sum_append]
  omega
/-- The rest of a text from a piece on: its lines, by the first one's number of pieces. -/
theorem par_step (c : Int) (S : By) {b k : Nat} (hb : b < (pcs S).length) (hk : line c ((pcs S).drop b) = k) :
    parB c (S.drop (off (pcs S) b)) = (S.drop (off (pcs S) b)).take (off (pcs S) (b + k) - off (pcs S) b) :: parB c (S.drop (off (pcs S) (b + k))) := by
  have hp := pcs_drop b S (by omega)
  have hlen : sumw (pcs S) = S.length := pcs_sum S
  have h1 := off_strict (pcs_pos S) hb
  have h2 := off_le_sum (pcs S) (b + 1)
  have hne : S.drop (off (pcs S) b) ≠ [] := by
    intro h
    have := congrArg List.length h
    rw [List.length_drop] at this
    simp only [List.length_nil] at this
    omega
  rw [parB_cons c hne]
  have hc : cutAt c (S.drop (off (pcs S) b)) = off (pcs S) (b + k) - off (pcs S) b := by
    unfold cutAt
    rw [hp, hk]
    have := off_drop (pcs S) b k
    omega
  rw [hc, List.drop_drop]
  have h3 := off_mono (pcs S) (show b ≤ b + k by omega)
  rw [show off (pcs S) b + (off (pcs S) (b + k) - off (pcs S) b) = off (pcs S) (b + k) by omega]
theorem par_end (c : Int) (S : By) {b : Nat} (hb : b < (pcs S).length) (hk : line c ((pcs S).drop b) = (pcs S).length - b) : parB c (S.drop (off (pcs S) b)) = [S.drop (off (pcs S) b)] := by
  rw [par_step c S hb hk]
  have hlen : sumw (pcs S) = S.length := pcs_sum S
  rw [show b + ((pcs S).length - b) = (pcs S).length by omega, off_all, hlen, List.drop_length, parB_nil]
  rw [List.take_of_length_le (by rw [List.length_drop]; omega)]
theorem ext_bytes9 (s : ByteArray) (i n : Nat) : (s.extract i (i + n)).data.toList = (s.data.toList.drop i).take n := by
  simp only [ByteArray.data_extract, Array.toList_extract]
  rw [List.extract_eq_take_drop]
  congr 1
  omega
theorem ext_two (s : ByteArray) (i j : Nat) (h : i ≤ j) : (s.extract i j).data.toList = (s.data.toList.drop i).take (j - i) := by
  have := ext_bytes9 s i (j - i)
  rwa [show i + (j - i) = j by omega] at this
set_option maxHeartbeats 4000000
set_option maxRecDepth 100000
theorem lines_c (s : ByteArray) (c : Int) (hc : c < 1) (w : World) : Calls Tryd.prog 50 #[.string s, .int .i64 c] w (ParP [s.data.toList] w) := by
  go_enter Tryd.func50, Tryd.ntmps50
  go_wp2
  go_ret
  refine ⟨some ⟨w.heap.size, 0, none⟩, 1, rfl, ?_, (Below.refl _ _).alloc (Nat.le_refl _) _⟩
  refine ⟨by simp [strs], .inr ⟨w.heap.size, 1, #[.string s], rfl, Nat.le_refl _, heap_alloc_new _ _, by simp, by unfold maxLen; omega, by simp, ?_⟩⟩
  rw [show strs [s.data.toList] = [Value.string s] by rw [ba_eq s]; rfl]
  rfl
theorem lines_e (c : Int) (hc : 1 ≤ c) (w : World) : Calls Tryd.prog 50 #[.string { data := #[] }, .int .i64 c] w (ParP [[]] w) := by
  have CP := small (pieces_any { data := #[] } w (by decide)) (by decide)
  rw [show pcs ({ data := #[] } : ByteArray).data.toList = [] from rfl] at CP
  go_enter Tryd.func50, Tryd.ntmps50
  go_wp2_with fail
  refine CP.mono ?_
  rintro e w1 ⟨A, cc, rfl, hown, hb1⟩
  have hs1 := hb1.size
  have HB := hid hb1
  clear hown hb1
  go_wp2
  refine wp_loop_rounds 1 ?_
  rw [rounds_succ]
  go_wp2
  go_ret
  refine ⟨some ⟨w1.heap.size, 0, none⟩, 1, rfl, ?_, HB.out.alloc hs1 _⟩
  exact ⟨by simp [strs], .inr ⟨w1.heap.size, 1, #[.string { data := #[] }], rfl, hs1, heap_alloc_new _ _, by simp, by unfold maxLen; omega, by simp, rfl⟩⟩
theorem lines_n (s : ByteArray) (c : Int) (hc : 1 ≤ c) (hz : 0 < s.size) (w : World) (hs : s.size ≤ 4000000) :
    Calls Tryd.prog 50 #[.string s, .int .i64 c] w (ParP (parB c s.data.toList) w) := by
  have hlen := pcs_len s.data.toList
  have hl2 : s.data.toList.length = s.size := by simp
  have hne : s.data.toList ≠ [] := fun h => by rw [h] at hl2; simp at hl2; omega
  have hP0 := List.length_pos_iff.2 (pcs_ne_nil hne)
  have hpos := pcs_pos s.data.toList
  have hsm : sumw (pcs s.data.toList) = s.size := by unfold sumw; rw [pcs_sum]; exact hl2
  have CP := fun x => small (pieces_any s x (by omega)) hs
  have hPS := fun (b k : Nat) => par_step c s.data.toList (b := b) (k := k)
  have hPE := fun (b : Nat) => par_end c s.data.toList (b := b)
  have hR : parB c (s.data.toList.drop (off (pcs s.data.toList) 0)) = parB c s.data.toList := by rw [off_zero, List.drop_zero]
  generalize parB c s.data.toList = R at *
  generalize pcs s.data.toList = P at *
  have hPI : (P.length : Int) ≤ 4000000 := by omega
  have HPS := hid hPS
  have HPE := hid hPE
  have HR := hid hR
  have HSM := hid hsm
  have HPOS := hid hpos
  have HL0 : Hid (line c (P.drop 0) = lnF c (0 - 0) 0 0 (P.drop 0)) := hid rfl
  clear hlen hl2 hne hpos hsm hPS hPE hR
  go_enter Tryd.func50, Tryd.ntmps50
  go_wp2_with fail
  refine (CP _).mono ?_
  rintro e w1 ⟨A0, c0', rfl, hown, hb1⟩
  have HA := hid (At.of_own hown)
  have hs1 := hb1.size
  have HB1 := hid hb1
  clear hown CP hb1
  go_wp2
  go_loopg [5, 7, 8, 9, 10] ((P.length + 1) * (P.length + 1)) (fun gh v5 v7 v8 v9 v10 wr => ∃ (b i n bl nL : Nat) (kb : Int) (L : List By) (A : Option Addr) (cc : Nat), v5 = .slice A nL cc ∧ v7 = .int .i64 b ∧ v8 = .int .i64 kb ∧ v9 = .int .i64 n ∧ v10 = .int .i64 i ∧ L.length = nL ∧ b < P.length ∧ b ≤ i ∧ i ≤ P.length ∧ n ≤ 2 * (i - b) ∧ bl ≤ i - b ∧ ((kb < (b : Int) ∧ bl = 0) ∨ (kb = ((b + bl : Nat) : Int) - 1 ∧ 1 ≤ bl)) ∧ -1 ≤ kb ∧ nL ≤ b ∧
      (P.length - b) * (P.length + 1) + (P.length - i) ≤ gh ∧ Hid (L ++ parB c (s.data.toList.drop (off P b)) = R) ∧ Hid (line c (P.drop b) = lnF c (i - b) n bl (P.drop i)) ∧ Hid (Below w1.heap.size w1 wr ∧ wr.ownsRow w1.heap.size 9 1 (.slice A nL cc) nL (strs L)))
  case atStart =>
    refine ⟨0, 0, 0, 0, 0, -1, [], none, 0, rfl, rfl, rfl, rfl, rfl, rfl, hP0, by omega, by omega, by omega, by omega, .inl ⟨by omega, rfl⟩, by omega, by omega, ?_, hid (by rw [← HR.out]; rfl), HL0, hid ⟨Below.refl _ _, World.ownsRow_nil _ _ _ _⟩⟩
    have : (P.length - 0) * (P.length + 1) + (P.length - 0) ≤ (P.length + 1) * (P.length + 1) := by rw [Nat.sub_zero, Nat.add_mul P.length 1]; omega
    exact this
  case round =>
    obtain ⟨b, i, n, bl, nL, kb, L, A, cc, rfl, rfl, rfl, rfl, rfl, hL, hbP, hbi, hiP, hn, hbl, hkb, hk1, hnb, hgh, HQ, HN, HO⟩ := hrel
    have hsr := HO.out.1.size
    have HLL := hid hL
    have HKB := hid hkb
    clear hL hkb
    by_cases hlt : i < P.length
    · have hli : (i : Int) < (P.length : Int) := by omega
      have hst := lnF_at c P (k := i - b) (n := n) (bl := bl) hlt
      obtain ⟨g, o, rfl, hg, c0, c1, c2⟩ := (HA.out.below HO.out.1).pr hlt
      have hw0 := wid_le ((P[i]'hlt).2 : Int)
      obtain ⟨r, hr⟩ : ∃ r, (P[i]'hlt).2 = r := ⟨_, rfl⟩
      obtain ⟨x, hx⟩ : ∃ x, off P i = x := ⟨_, rfl⟩
      obtain ⟨y, hy⟩ : ∃ y, off P (i + 1) = y := ⟨_, rfl⟩
      obtain ⟨d, hd⟩ : ∃ d, wid (r : Int) = d := ⟨_, rfl⟩
      have HRI := hid hr
      rw [hr] at hst c2 hw0
      rw [hd] at hst hw0
      rw [hx] at c0
      rw [hy] at c1
      have CC := fun z => pcells_any x y r z
      rw [hd] at CC
      have HX := hid hx
      have HY := hid hy
      have HD := hid hd
      clear hr hx hy hd
      by_cases hbr : 1 ≤ i - b ∧ c < ((n + d : Nat) : Int)
      · rw [if_pos hbr] at hst
        have hib : (b : Int) < (i : Int) := by omega
        have hgt : c < (n : Int) + (d : Int) := by omega
        clear hbr
        -- the line ends: from b to j
        by_cases h32 : r = 32
        · have h32' : (r : Int) = 32 := by omega
          rw [if_neg (by omega)] at hst
          rw [h32'] at CC
          by_cases hkb2 : (b : Int) ≤ kb
          · skip
            have hjP : i < P.length := by omega
            have hq := HPS.out b (i - b) hbP (HN.out.trans hst)
            have hjo := off_mono P (show b ≤ i by omega)
            have hjs := off_le_sum P i
            rw [HSM.out] at hjs
            rw [show b + (i - b) = i by omega] at hq
            have hres : (L ++ [(s.extract (off P b) (off P i)).data.toList]) ++ parB c (s.data.toList.drop (off P i)) = R := by
              rw [ext_two s _ _ hjo, ← HQ.out, hq, List.append_assoc]
              rfl
            have hln := line_at c P hjP
            have HJJ : True := trivial
            obtain ⟨g2, o2, hA2, hg2, b0, b1, b2⟩ := (HA.out.below HO.out.1).pr hbP
            obtain ⟨rfl, rfl⟩ : g = g2 ∧ o = o2 := by
              injection hA2 with e
              injection e with e1 e2
              exact ⟨e1, e2⟩
            clear hA2 hg2
            obtain ⟨g2, o2, hA2, hg2, j0, j1, j2⟩ := (HA.out.below HO.out.1).pr hjP
            obtain ⟨rfl, rfl⟩ : g = g2 ∧ o = o2 := by
              injection hA2 with e
              injection e with e1 e2
              exact ⟨e1, e2⟩
            clear hA2 hg2
            have hwj := wid_le ((P[i]'hjP).2 : Int)
            obtain ⟨rj, hrj⟩ : ∃ r, (P[i]'hjP).2 = r := ⟨_, rfl⟩
            obtain ⟨xb, hxb⟩ : ∃ x, off P b = x := ⟨_, rfl⟩
            obtain ⟨xj, hxj⟩ : ∃ x, off P i = x := ⟨_, rfl⟩
            obtain ⟨yj, hyj⟩ : ∃ x, off P (i + 1) = x := ⟨_, rfl⟩
            obtain ⟨dj, hdj⟩ : ∃ d, wid (rj : Int) = d := ⟨_, rfl⟩
            rw [hrj] at hln j2 hwj
            rw [hdj] at hln hwj
            rw [hxb] at hres b0 hjo
            rw [hxj] at hres j0 hjo hjs
            rw [hyj] at j1
            obtain rfl : rj = r := by rw [← hrj, HRI.out]
            obtain rfl : xj = x := by rw [← hxj, HX.out]
            obtain rfl : yj = y := by rw [← hyj, HY.out]
            obtain rfl : dj = d := by rw [← hdj, HD.out]
            clear HX HY HD HRI
            have hj32 : rj = 32 := by omega
            have hj32' : (rj : Int) = 32 := by omega
            have CJ := fun z => pcells_any xj yj rj z
            rw [hdj] at CJ
            (try rw [show (rj : Int) = 32 from hj32'] at CJ)
            have hjo' : (xb : Int) ≤ (xj : Int) := by omega
            have hjs' : (xj : Int) ≤ (s.size : Int) := by omega
            have HRE := hid (show (L ++ [(s.extract xb xj).data.toList]) ++ parB c (s.data.toList.drop (off P i)) = R by rw [hxj]; exact hres)
            have HLN := hid hln
            have hbP' : (b : Int) < (P.length : Int) := by omega
            have hjP' : ((i : Nat) : Int) < (P.length : Int) := by omega
            clear hq hres hln hst hxb hxj hyj hdj c0 c1 b1 b2
            go_wp2_with fail
            refine (CC _).mono ?_
            rintro e w2 ⟨rfl, hb2⟩
            have hs2 := hb2.size
            have hcc := (bcell hb2).1
            have k0 : w2.cell? ⟨g, o + b * 3, none⟩ = some (.int .i64 (xb : Int)) := by rw [hcc _ _ (by omega)]; exact b0
            have k2 : w2.cell? ⟨g, o + i * 3 + 2, none⟩ = some (.int .i32 (rj : Int)) := by rw [hcc _ _ (by omega)]; exact c2
            have l0 : w2.cell? ⟨g, o + i * 3, none⟩ = some (.int .i64 (xj : Int)) := by rw [hcc _ _ (by omega)]; exact j0
            have l1 : w2.cell? ⟨g, o + i * 3 + 1, none⟩ = some (.int .i64 (yj : Int)) := by rw [hcc _ _ (by omega)]; exact j1
            have l2 : w2.cell? ⟨g, o + i * 3 + 2, none⟩ = some (.int .i32 (rj : Int)) := by rw [hcc _ _ (by omega)]; exact j2
            have y2 : g < w2.heap.size := by omega
            have HO2 := hid (And.intro (HO.out.1.trans (hb2.mono hsr)) (own_below' HO.out.2 hb2))
            have hs1' := HO2.out.1.size
            clear hb2 HO c2 b0 j0 j1 j2 hcc CC
            go_wp2
            (apply region_make1 (Good := NewCells w2 (fun b => .slice (some ⟨b, 0, none⟩) 1 1) #[.string (s.extract xb xj)] 9) (W := w2) 14 13 mixed rfl rfl (by kernel_rfl) (by decide) NewCells.mono; (focus (intro V hV; have hsV := hV.size; obtain ⟨hcV, hfV⟩ := bcell hV; have zV_0 : g < V.heap.size := (by omega); have yV_0 : g < V.heap.size + 1 := (by omega); simp only [List.length_cons, List.length_nil, Nat.reduceAdd, Nat.reduceSub, List.take_succ_cons, List.take_zero, List.drop_succ_cons, List.drop_zero, List.cons_append, List.nil_append, List.append_nil]; (repeat (go_big_quiet_step (fail))); exact wpQuiet_nil rfl)); (focus (exact makes_new fun w => by simp [go_sem])); rintro v w3 ⟨b3, hge3, hlt3, hblk3, rfl⟩ hb3; have hs3 := hb3.size; obtain ⟨hc3, hf3⟩ := bcell hb3; have hk3 := blk_cell hblk3; have hl3 := blk_frozen hblk3; have zw3_0 : g < w3.heap.size := (by omega); have yw3_0 : g < w3.heap.size + 1 := (by omega); simp only [List.length_cons, List.length_nil, Nat.reduceAdd, Nat.reduceSub, List.take_succ_cons, List.take_zero, List.drop_succ_cons, List.drop_zero, List.cons_append, List.nil_append, List.append_nil])
            have l0' : w3.cell? ⟨g, o + i * 3, none⟩ = some (.int .i64 (xj : Int)) := by rw [hc3 _ _ y2]; exact l0
            have l1' : w3.cell? ⟨g, o + i * 3 + 1, none⟩ = some (.int .i64 (yj : Int)) := by rw [hc3 _ _ y2]; exact l1
            have l2' : w3.cell? ⟨g, o + i * 3 + 2, none⟩ = some (.int .i32 (rj : Int)) := by rw [hc3 _ _ y2]; exact l2
            have HO3 := hid (And.intro (HO2.out.1.trans (hb3.mono hs1')) (own_below' HO2.out.2 hb3))
            have HBK := hid hblk3
            have HNE : Hid ((Value.slice A nL cc).ownBlock ≠ some b3) := hid fun e => by have := own_lt HO2.out.2 (Nat.le_refl _) _ e; omega
            have hy3 : g < w3.heap.size := by omega
            have hs3' := HO3.out.1.size
            clear k0 k2 l0 l1 l2 hc3 hf3 hk3 hl3 hblk3 HO2 hb3
            go_wp2_with (
              at_builtin
              refine append_str rfl _ _ rfl w1.heap.size (.slice A nL cc) L nL HLL.out b3 (s.extract xb xj) (s.extract xb xj).data.toList (ba_eq _) rfl rfl HO3.out.2 HBK.out HNE.out (by omega) (by omega) (fun v' w4 m1 m2 m3 => ?_)
              have hga : g < w1.heap.size := hg
              have hm := m2.block g hy3 (fun e => by have := own_ge HO3.out.2 g e.symm; omega)
              have n0 : w4.cell? ⟨g, o + i * 3, none⟩ = some (.int .i64 (xj : Int)) := by rw [World.cell?_of_block hm]; exact l0'
              have n1 : w4.cell? ⟨g, o + i * 3 + 1, none⟩ = some (.int .i64 (yj : Int)) := by rw [World.cell?_of_block hm]; exact l1'
              have n2 : w4.cell? ⟨g, o + i * 3 + 2, none⟩ = some (.int .i32 (rj : Int)) := by rw [World.cell?_of_block hm]; exact l2'
              obtain ⟨A', cc', rfl⟩ := own_shape m1
              have HB4 := hid (HO3.out.1.grown m2 hs3' (own_ge HO3.out.2))
              have HO4 := hid m1
              have hs4 : w3.heap.size ≤ w4.heap.size := m2.size
              have y4 : g < w4.heap.size := by omega
              clear m1 m2 m3 hm l0' l1' l2' HO3 HBK HNE)
            refine (CJ _).mono ?_
            rintro e w5 ⟨rfl, hb5⟩
            have p2 : w5.cell? ⟨g, o + i * 3 + 2, none⟩ = some (.int .i32 (rj : Int)) := by rw [(bcell hb5).1 _ _ y4]; exact n2
            have hs5 := hb5.size
            have y5 : g < w5.heap.size := by omega
            have HO5 := hid (And.intro (HB4.out.trans (hb5.mono HB4.out.size)) (own_below' HO4.out hb5))
            clear hb5 HB4 HO4 n0 n1 n2
            go_wp2
            go_roundg ((P.length - i) * (P.length + 1) + (P.length - (i + 1)))
            case measure =>
              have q1 : ((P.length - i) + 1) * (P.length + 1) ≤ (P.length - b) * (P.length + 1) := Nat.mul_le_mul_right _ (by omega)
              rw [Nat.add_mul] at q1
              omega
            case rel => exact ⟨i, i + 1, dj, 1, nL + 1, ((i : Nat) : Int), L ++ [(s.extract xb xj).data.toList], A', cc', rfl, by go_num, by go_num, rfl, by go_num, by rw [List.length_append, HLL.out]; rfl, hjP, by omega, by omega, by omega, by omega, .inr ⟨by omega, by omega⟩, by omega, by omega, Nat.le_refl _, HRE, hid (by rw [HLN.out, show i + 1 - i = 1 by omega]; rw [if_pos hj32]), HO5⟩
          · skip
            have hjP : i < P.length := by omega
            have hq := HPS.out b (i - b) hbP (HN.out.trans hst)
            have hjo := off_mono P (show b ≤ i by omega)
            have hjs := off_le_sum P i
            rw [HSM.out] at hjs
            rw [show b + (i - b) = i by omega] at hq
            have hres : (L ++ [(s.extract (off P b) (off P i)).data.toList]) ++ parB c (s.data.toList.drop (off P i)) = R := by
              rw [ext_two s _ _ hjo, ← HQ.out, hq, List.append_assoc]
              rfl
            have hln := line_at c P hjP
            have HJJ : True := trivial
            obtain ⟨g2, o2, hA2, hg2, b0, b1, b2⟩ := (HA.out.below HO.out.1).pr hbP
            obtain ⟨rfl, rfl⟩ : g = g2 ∧ o = o2 := by
              injection hA2 with e
              injection e with e1 e2
              exact ⟨e1, e2⟩
            clear hA2 hg2
            obtain ⟨g2, o2, hA2, hg2, j0, j1, j2⟩ := (HA.out.below HO.out.1).pr hjP
            obtain ⟨rfl, rfl⟩ : g = g2 ∧ o = o2 := by
              injection hA2 with e
              injection e with e1 e2
              exact ⟨e1, e2⟩
            clear hA2 hg2
            have hwj := wid_le ((P[i]'hjP).2 : Int)
            obtain ⟨rj, hrj⟩ : ∃ r, (P[i]'hjP).2 = r := ⟨_, rfl⟩
            obtain ⟨xb, hxb⟩ : ∃ x, off P b = x := ⟨_, rfl⟩
            obtain ⟨xj, hxj⟩ : ∃ x, off P i = x := ⟨_, rfl⟩
            obtain ⟨yj, hyj⟩ : ∃ x, off P (i + 1) = x := ⟨_, rfl⟩
            obtain ⟨dj, hdj⟩ : ∃ d, wid (rj : Int) = d := ⟨_, rfl⟩
            rw [hrj] at hln j2 hwj
            rw [hdj] at hln hwj
            rw [hxb] at hres b0 hjo
            rw [hxj] at hres j0 hjo hjs
            rw [hyj] at j1
            obtain rfl : rj = r := by rw [← hrj, HRI.out]
            obtain rfl : xj = x := by rw [← hxj, HX.out]
            obtain rfl : yj = y := by rw [← hyj, HY.out]
            obtain rfl : dj = d := by rw [← hdj, HD.out]
            clear HX HY HD HRI
            have hj32 : rj = 32 := by omega
            have hj32' : (rj : Int) = 32 := by omega
            have CJ := fun z => pcells_any xj yj rj z
            rw [hdj] at CJ
            (try rw [show (rj : Int) = 32 from hj32'] at CJ)
            have hjo' : (xb : Int) ≤ (xj : Int) := by omega
            have hjs' : (xj : Int) ≤ (s.size : Int) := by omega
            have HRE := hid (show (L ++ [(s.extract xb xj).data.toList]) ++ parB c (s.data.toList.drop (off P i)) = R by rw [hxj]; exact hres)
            have HLN := hid hln
            have hbP' : (b : Int) < (P.length : Int) := by omega
            have hjP' : ((i : Nat) : Int) < (P.length : Int) := by omega
            clear hq hres hln hst hxb hxj hyj hdj c0 c1 b1 b2
            go_wp2_with fail
            refine (CC _).mono ?_
            rintro e w2 ⟨rfl, hb2⟩
            have hs2 := hb2.size
            have hcc := (bcell hb2).1
            have k0 : w2.cell? ⟨g, o + b * 3, none⟩ = some (.int .i64 (xb : Int)) := by rw [hcc _ _ (by omega)]; exact b0
            have k2 : w2.cell? ⟨g, o + i * 3 + 2, none⟩ = some (.int .i32 (rj : Int)) := by rw [hcc _ _ (by omega)]; exact c2
            have l0 : w2.cell? ⟨g, o + i * 3, none⟩ = some (.int .i64 (xj : Int)) := by rw [hcc _ _ (by omega)]; exact j0
            have l1 : w2.cell? ⟨g, o + i * 3 + 1, none⟩ = some (.int .i64 (yj : Int)) := by rw [hcc _ _ (by omega)]; exact j1
            have l2 : w2.cell? ⟨g, o + i * 3 + 2, none⟩ = some (.int .i32 (rj : Int)) := by rw [hcc _ _ (by omega)]; exact j2
            have y2 : g < w2.heap.size := by omega
            have HO2 := hid (And.intro (HO.out.1.trans (hb2.mono hsr)) (own_below' HO.out.2 hb2))
            have hs1' := HO2.out.1.size
            clear hb2 HO c2 b0 j0 j1 j2 hcc CC
            go_wp2
            (apply region_make1 (Good := NewCells w2 (fun b => .slice (some ⟨b, 0, none⟩) 1 1) #[.string (s.extract xb xj)] 9) (W := w2) 14 13 mixed rfl rfl (by kernel_rfl) (by decide) NewCells.mono; (focus (intro V hV; have hsV := hV.size; obtain ⟨hcV, hfV⟩ := bcell hV; have zV_0 : g < V.heap.size := (by omega); have yV_0 : g < V.heap.size + 1 := (by omega); simp only [List.length_cons, List.length_nil, Nat.reduceAdd, Nat.reduceSub, List.take_succ_cons, List.take_zero, List.drop_succ_cons, List.drop_zero, List.cons_append, List.nil_append, List.append_nil]; (repeat (go_big_quiet_step (fail))); exact wpQuiet_nil rfl)); (focus (exact makes_new fun w => by simp [go_sem])); rintro v w3 ⟨b3, hge3, hlt3, hblk3, rfl⟩ hb3; have hs3 := hb3.size; obtain ⟨hc3, hf3⟩ := bcell hb3; have hk3 := blk_cell hblk3; have hl3 := blk_frozen hblk3; have zw3_0 : g < w3.heap.size := (by omega); have yw3_0 : g < w3.heap.size + 1 := (by omega); simp only [List.length_cons, List.length_nil, Nat.reduceAdd, Nat.reduceSub, List.take_succ_cons, List.take_zero, List.drop_succ_cons, List.drop_zero, List.cons_append, List.nil_append, List.append_nil])
            have l0' : w3.cell? ⟨g, o + i * 3, none⟩ = some (.int .i64 (xj : Int)) := by rw [hc3 _ _ y2]; exact l0
            have l1' : w3.cell? ⟨g, o + i * 3 + 1, none⟩ = some (.int .i64 (yj : Int)) := by rw [hc3 _ _ y2]; exact l1
            have l2' : w3.cell? ⟨g, o + i * 3 + 2, none⟩ = some (.int .i32 (rj : Int)) := by rw [hc3 _ _ y2]; exact l2
            have HO3 := hid (And.intro (HO2.out.1.trans (hb3.mono hs1')) (own_below' HO2.out.2 hb3))
            have HBK := hid hblk3
            have HNE : Hid ((Value.slice A nL cc).ownBlock ≠ some b3) := hid fun e => by have := own_lt HO2.out.2 (Nat.le_refl _) _ e; omega
            have hy3 : g < w3.heap.size := by omega
            have hs3' := HO3.out.1.size
            clear k0 k2 l0 l1 l2 hc3 hf3 hk3 hl3 hblk3 HO2 hb3
            go_wp2_with (
              at_builtin
              refine append_str rfl _ _ rfl w1.heap.size (.slice A nL cc) L nL HLL.out b3 (s.extract xb xj) (s.extract xb xj).data.toList (ba_eq _) rfl rfl HO3.out.2 HBK.out HNE.out (by omega) (by omega) (fun v' w4 m1 m2 m3 => ?_)
              have hga : g < w1.heap.size := hg
              have hm := m2.block g hy3 (fun e => by have := own_ge HO3.out.2 g e.symm; omega)
              have n0 : w4.cell? ⟨g, o + i * 3, none⟩ = some (.int .i64 (xj : Int)) := by rw [World.cell?_of_block hm]; exact l0'
              have n1 : w4.cell? ⟨g, o + i * 3 + 1, none⟩ = some (.int .i64 (yj : Int)) := by rw [World.cell?_of_block hm]; exact l1'
              have n2 : w4.cell? ⟨g, o + i * 3 + 2, none⟩ = some (.int .i32 (rj : Int)) := by rw [World.cell?_of_block hm]; exact l2'
              obtain ⟨A', cc', rfl⟩ := own_shape m1
              have HB4 := hid (HO3.out.1.grown m2 hs3' (own_ge HO3.out.2))
              have HO4 := hid m1
              have hs4 : w3.heap.size ≤ w4.heap.size := m2.size
              have y4 : g < w4.heap.size := by omega
              clear m1 m2 m3 hm l0' l1' l2' HO3 HBK HNE)
            refine (CJ _).mono ?_
            rintro e w5 ⟨rfl, hb5⟩
            have p2 : w5.cell? ⟨g, o + i * 3 + 2, none⟩ = some (.int .i32 (rj : Int)) := by rw [(bcell hb5).1 _ _ y4]; exact n2
            have hs5 := hb5.size
            have y5 : g < w5.heap.size := by omega
            have HO5 := hid (And.intro (HB4.out.trans (hb5.mono HB4.out.size)) (own_below' HO4.out hb5))
            clear hb5 HB4 HO4 n0 n1 n2
            go_wp2
            go_roundg ((P.length - i) * (P.length + 1) + (P.length - (i + 1)))
            case measure =>
              have q1 : ((P.length - i) + 1) * (P.length + 1) ≤ (P.length - b) * (P.length + 1) := Nat.mul_le_mul_right _ (by omega)
              rw [Nat.add_mul] at q1
              omega
            case rel => exact ⟨i, i + 1, dj, 1, nL + 1, ((i : Nat) : Int), L ++ [(s.extract xb xj).data.toList], A', cc', rfl, by go_num, by go_num, rfl, by go_num, by rw [List.length_append, HLL.out]; rfl, hjP, by omega, by omega, by omega, by omega, .inr ⟨by omega, by omega⟩, by omega, by omega, Nat.le_refl _, HRE, hid (by rw [HLN.out, show i + 1 - i = 1 by omega]; rw [if_pos hj32]), HO5⟩
        · have h32' : ¬ ((r : Int) = 32) := by omega
          have hbe : ((r : Int) == 32) = false := by simpa using h32'
          have hbn : ((r : Int) != 32) = true := by simpa using h32'
          by_cases hbl0 : bl = 0
          · have hkb2 : ¬ ((b : Int) ≤ kb) := by have := HKB.out; omega
            rw [if_neg (by omega)] at hst
            have hjP : i < P.length := by omega
            have hq := HPS.out b (i - b) hbP (HN.out.trans hst)
            have hjo := off_mono P (show b ≤ i by omega)
            have hjs := off_le_sum P i
            rw [HSM.out] at hjs
            rw [show b + (i - b) = i by omega] at hq
            have hres : (L ++ [(s.extract (off P b) (off P i)).data.toList]) ++ parB c (s.data.toList.drop (off P i)) = R := by
              rw [ext_two s _ _ hjo, ← HQ.out, hq, List.append_assoc]
              rfl
            have hln := line_at c P hjP
            have HJJ : True := trivial
            obtain ⟨g2, o2, hA2, hg2, b0, b1, b2⟩ := (HA.out.below HO.out.1).pr hbP
            obtain ⟨rfl, rfl⟩ : g = g2 ∧ o = o2 := by
              injection hA2 with e
              injection e with e1 e2
              exact ⟨e1, e2⟩
            clear hA2 hg2
            obtain ⟨g2, o2, hA2, hg2, j0, j1, j2⟩ := (HA.out.below HO.out.1).pr hjP
            obtain ⟨rfl, rfl⟩ : g = g2 ∧ o = o2 := by
              injection hA2 with e
              injection e with e1 e2
              exact ⟨e1, e2⟩
            clear hA2 hg2
            have hwj := wid_le ((P[i]'hjP).2 : Int)
            obtain ⟨rj, hrj⟩ : ∃ r, (P[i]'hjP).2 = r := ⟨_, rfl⟩
            obtain ⟨xb, hxb⟩ : ∃ x, off P b = x := ⟨_, rfl⟩
            obtain ⟨xj, hxj⟩ : ∃ x, off P i = x := ⟨_, rfl⟩
            obtain ⟨yj, hyj⟩ : ∃ x, off P (i + 1) = x := ⟨_, rfl⟩
            obtain ⟨dj, hdj⟩ : ∃ d, wid (rj : Int) = d := ⟨_, rfl⟩
            rw [hrj] at hln j2 hwj
            rw [hdj] at hln hwj
            rw [hxb] at hres b0 hjo
            rw [hxj] at hres j0 hjo hjs
            rw [hyj] at j1
            obtain rfl : rj = r := by rw [← hrj, HRI.out]
            obtain rfl : xj = x := by rw [← hxj, HX.out]
            obtain rfl : yj = y := by rw [← hyj, HY.out]
            obtain rfl : dj = d := by rw [← hdj, HD.out]
            clear HX HY HD HRI
            have hj32 : ¬ (rj = 32) := by omega
            have hj32' : ¬ ((rj : Int) = 32) := by omega
            have hjbe : ((rj : Int) == 32) = false := by simpa using hj32'
            have CJ := fun z => pcells_any xj yj rj z
            rw [hdj] at CJ
            (try rw [show (rj : Int) = 32 from hj32'] at CJ)
            have hjo' : (xb : Int) ≤ (xj : Int) := by omega
            have hjs' : (xj : Int) ≤ (s.size : Int) := by omega
            have HRE := hid (show (L ++ [(s.extract xb xj).data.toList]) ++ parB c (s.data.toList.drop (off P i)) = R by rw [hxj]; exact hres)
            have HLN := hid hln
            have hbP' : (b : Int) < (P.length : Int) := by omega
            have hjP' : ((i : Nat) : Int) < (P.length : Int) := by omega
            clear hq hres hln hst hxb hxj hyj hdj c0 c1 b1 b2
            go_wp2_with fail
            refine (CC _).mono ?_
            rintro e w2 ⟨rfl, hb2⟩
            have hs2 := hb2.size
            have hcc := (bcell hb2).1
            have k0 : w2.cell? ⟨g, o + b * 3, none⟩ = some (.int .i64 (xb : Int)) := by rw [hcc _ _ (by omega)]; exact b0
            have k2 : w2.cell? ⟨g, o + i * 3 + 2, none⟩ = some (.int .i32 (rj : Int)) := by rw [hcc _ _ (by omega)]; exact c2
            have l0 : w2.cell? ⟨g, o + i * 3, none⟩ = some (.int .i64 (xj : Int)) := by rw [hcc _ _ (by omega)]; exact j0
            have l1 : w2.cell? ⟨g, o + i * 3 + 1, none⟩ = some (.int .i64 (yj : Int)) := by rw [hcc _ _ (by omega)]; exact j1
            have l2 : w2.cell? ⟨g, o + i * 3 + 2, none⟩ = some (.int .i32 (rj : Int)) := by rw [hcc _ _ (by omega)]; exact j2
            have y2 : g < w2.heap.size := by omega
            have HO2 := hid (And.intro (HO.out.1.trans (hb2.mono hsr)) (own_below' HO.out.2 hb2))
            have hs1' := HO2.out.1.size
            clear hb2 HO c2 b0 j0 j1 j2 hcc CC
            go_wp2
            (apply region_make1 (Good := NewCells w2 (fun b => .slice (some ⟨b, 0, none⟩) 1 1) #[.string (s.extract xb xj)] 9) (W := w2) 14 13 mixed rfl rfl (by kernel_rfl) (by decide) NewCells.mono; (focus (intro V hV; have hsV := hV.size; obtain ⟨hcV, hfV⟩ := bcell hV; have zV_0 : g < V.heap.size := (by omega); have yV_0 : g < V.heap.size + 1 := (by omega); simp only [List.length_cons, List.length_nil, Nat.reduceAdd, Nat.reduceSub, List.take_succ_cons, List.take_zero, List.drop_succ_cons, List.drop_zero, List.cons_append, List.nil_append, List.append_nil]; (repeat (go_big_quiet_step (fail))); exact wpQuiet_nil rfl)); (focus (exact makes_new fun w => by simp [go_sem])); rintro v w3 ⟨b3, hge3, hlt3, hblk3, rfl⟩ hb3; have hs3 := hb3.size; obtain ⟨hc3, hf3⟩ := bcell hb3; have hk3 := blk_cell hblk3; have hl3 := blk_frozen hblk3; have zw3_0 : g < w3.heap.size := (by omega); have yw3_0 : g < w3.heap.size + 1 := (by omega); simp only [List.length_cons, List.length_nil, Nat.reduceAdd, Nat.reduceSub, List.take_succ_cons, List.take_zero, List.drop_succ_cons, List.drop_zero, List.cons_append, List.nil_append, List.append_nil])
            have l0' : w3.cell? ⟨g, o + i * 3, none⟩ = some (.int .i64 (xj : Int)) := by rw [hc3 _ _ y2]; exact l0
            have l1' : w3.cell? ⟨g, o + i * 3 + 1, none⟩ = some (.int .i64 (yj : Int)) := by rw [hc3 _ _ y2]; exact l1
            have l2' : w3.cell? ⟨g, o + i * 3 + 2, none⟩ = some (.int .i32 (rj : Int)) := by rw [hc3 _ _ y2]; exact l2
            have HO3 := hid (And.intro (HO2.out.1.trans (hb3.mono hs1')) (own_below' HO2.out.2 hb3))
            have HBK := hid hblk3
            have HNE : Hid ((Value.slice A nL cc).ownBlock ≠ some b3) := hid fun e => by have := own_lt HO2.out.2 (Nat.le_refl _) _ e; omega
            have hy3 : g < w3.heap.size := by omega
            have hs3' := HO3.out.1.size
            clear k0 k2 l0 l1 l2 hc3 hf3 hk3 hl3 hblk3 HO2 hb3
            go_wp2_with (
              at_builtin
              refine append_str rfl _ _ rfl w1.heap.size (.slice A nL cc) L nL HLL.out b3 (s.extract xb xj) (s.extract xb xj).data.toList (ba_eq _) rfl rfl HO3.out.2 HBK.out HNE.out (by omega) (by omega) (fun v' w4 m1 m2 m3 => ?_)
              have hga : g < w1.heap.size := hg
              have hm := m2.block g hy3 (fun e => by have := own_ge HO3.out.2 g e.symm; omega)
              have n0 : w4.cell? ⟨g, o + i * 3, none⟩ = some (.int .i64 (xj : Int)) := by rw [World.cell?_of_block hm]; exact l0'
              have n1 : w4.cell? ⟨g, o + i * 3 + 1, none⟩ = some (.int .i64 (yj : Int)) := by rw [World.cell?_of_block hm]; exact l1'
              have n2 : w4.cell? ⟨g, o + i * 3 + 2, none⟩ = some (.int .i32 (rj : Int)) := by rw [World.cell?_of_block hm]; exact l2'
              obtain ⟨A', cc', rfl⟩ := own_shape m1
              have HB4 := hid (HO3.out.1.grown m2 hs3' (own_ge HO3.out.2))
              have HO4 := hid m1
              have hs4 : w3.heap.size ≤ w4.heap.size := m2.size
              have y4 : g < w4.heap.size := by omega
              clear m1 m2 m3 hm l0' l1' l2' HO3 HBK HNE)
            refine (CJ _).mono ?_
            rintro e w5 ⟨rfl, hb5⟩
            have p2 : w5.cell? ⟨g, o + i * 3 + 2, none⟩ = some (.int .i32 (rj : Int)) := by rw [(bcell hb5).1 _ _ y4]; exact n2
            have hs5 := hb5.size
            have y5 : g < w5.heap.size := by omega
            have HO5 := hid (And.intro (HB4.out.trans (hb5.mono HB4.out.size)) (own_below' HO4.out hb5))
            clear hb5 HB4 HO4 n0 n1 n2
            go_wp2
            go_roundg ((P.length - i) * (P.length + 1) + (P.length - (i + 1)))
            case measure =>
              have q1 : ((P.length - i) + 1) * (P.length + 1) ≤ (P.length - b) * (P.length + 1) := Nat.mul_le_mul_right _ (by omega)
              rw [Nat.add_mul] at q1
              omega
            case rel => exact ⟨i, i + 1, dj, 0, nL + 1, kb, L ++ [(s.extract xb xj).data.toList], A', cc', rfl, by go_num, by go_num, rfl, by go_num, by rw [List.length_append, HLL.out]; rfl, hjP, by omega, by omega, by omega, by omega, .inl ⟨by omega, rfl⟩, by omega, by omega, Nat.le_refl _, HRE, hid (by rw [HLN.out, show i + 1 - i = 1 by omega]; rw [if_neg hj32]), HO5⟩
          · skip
            obtain ⟨J, hJ⟩ : ∃ J, b + bl = J := ⟨_, rfl⟩
            have hkJ : kb = ((J : Nat) : Int) - 1 := by have := HKB.out; omega
            subst hkJ
            have hbk : (b : Int) ≤ ((J : Nat) : Int) - 1 := by omega
            rw [if_pos ⟨h32, by omega⟩] at hst
            have hjP : J < P.length := by omega
            have hq := HPS.out b bl hbP (HN.out.trans hst)
            have hjo := off_mono P (show b ≤ J by omega)
            have hjs := off_le_sum P J
            rw [HSM.out] at hjs
            rw [show b + bl = J by omega] at hq
            have hres : (L ++ [(s.extract (off P b) (off P J)).data.toList]) ++ parB c (s.data.toList.drop (off P J)) = R := by
              rw [ext_two s _ _ hjo, ← HQ.out, hq, List.append_assoc]
              rfl
            have hln := line_at c P hjP
            have HJJ : True := trivial
            obtain ⟨g2, o2, hA2, hg2, b0, b1, b2⟩ := (HA.out.below HO.out.1).pr hbP
            obtain ⟨rfl, rfl⟩ : g = g2 ∧ o = o2 := by
              injection hA2 with e
              injection e with e1 e2
              exact ⟨e1, e2⟩
            clear hA2 hg2
            obtain ⟨g2, o2, hA2, hg2, j0, j1, j2⟩ := (HA.out.below HO.out.1).pr hjP
            obtain ⟨rfl, rfl⟩ : g = g2 ∧ o = o2 := by
              injection hA2 with e
              injection e with e1 e2
              exact ⟨e1, e2⟩
            clear hA2 hg2
            have hwj := wid_le ((P[J]'hjP).2 : Int)
            obtain ⟨rj, hrj⟩ : ∃ r, (P[J]'hjP).2 = r := ⟨_, rfl⟩
            obtain ⟨xb, hxb⟩ : ∃ x, off P b = x := ⟨_, rfl⟩
            obtain ⟨xj, hxj⟩ : ∃ x, off P J = x := ⟨_, rfl⟩
            obtain ⟨yj, hyj⟩ : ∃ x, off P (J + 1) = x := ⟨_, rfl⟩
            obtain ⟨dj, hdj⟩ : ∃ d, wid (rj : Int) = d := ⟨_, rfl⟩
            rw [hrj] at hln j2 hwj
            rw [hdj] at hln hwj
            rw [hxb] at hres b0 hjo
            rw [hxj] at hres j0 hjo hjs
            rw [hyj] at j1
            by_cases hj32 : rj = 32
            · have hj32' : (rj : Int) = 32 := by omega
              have CJ := fun z => pcells_any xj yj rj z
              rw [hdj] at CJ
              (try rw [show (rj : Int) = 32 from hj32'] at CJ)
              have hjo' : (xb : Int) ≤ (xj : Int) := by omega
              have hjs' : (xj : Int) ≤ (s.size : Int) := by omega
              have HRE := hid (show (L ++ [(s.extract xb xj).data.toList]) ++ parB c (s.data.toList.drop (off P J)) = R by rw [hxj]; exact hres)
              have HLN := hid hln
              have hbP' : (b : Int) < (P.length : Int) := by omega
              have hjP' : ((J : Nat) : Int) < (P.length : Int) := by omega
              clear hq hres hln hst hxb hxj hyj hdj b1 b2
              go_wp2_with fail
              refine (CC _).mono ?_
              rintro e w2 ⟨rfl, hb2⟩
              have hs2 := hb2.size
              have hcc := (bcell hb2).1
              have k0 : w2.cell? ⟨g, o + b * 3, none⟩ = some (.int .i64 (xb : Int)) := by rw [hcc _ _ (by omega)]; exact b0
              have k2 : w2.cell? ⟨g, o + i * 3 + 2, none⟩ = some (.int .i32 (r : Int)) := by rw [hcc _ _ (by omega)]; exact c2
              have l0 : w2.cell? ⟨g, o + J * 3, none⟩ = some (.int .i64 (xj : Int)) := by rw [hcc _ _ (by omega)]; exact j0
              have l1 : w2.cell? ⟨g, o + J * 3 + 1, none⟩ = some (.int .i64 (yj : Int)) := by rw [hcc _ _ (by omega)]; exact j1
              have l2 : w2.cell? ⟨g, o + J * 3 + 2, none⟩ = some (.int .i32 (rj : Int)) := by rw [hcc _ _ (by omega)]; exact j2
              have y2 : g < w2.heap.size := by omega
              have HO2 := hid (And.intro (HO.out.1.trans (hb2.mono hsr)) (own_below' HO.out.2 hb2))
              have hs1' := HO2.out.1.size
              clear hb2 HO c2 b0 j0 j1 j2 hcc CC
              go_wp2
              (apply region_make1 (Good := NewCells w2 (fun b => .slice (some ⟨b, 0, none⟩) 1 1) #[.string (s.extract xb xj)] 9) (W := w2) 14 13 mixed rfl rfl (by kernel_rfl) (by decide) NewCells.mono; (focus (intro V hV; have hsV := hV.size; obtain ⟨hcV, hfV⟩ := bcell hV; have zV_0 : g < V.heap.size := (by omega); have yV_0 : g < V.heap.size + 1 := (by omega); simp only [List.length_cons, List.length_nil, Nat.reduceAdd, Nat.reduceSub, List.take_succ_cons, List.take_zero, List.drop_succ_cons, List.drop_zero, List.cons_append, List.nil_append, List.append_nil]; (repeat (go_big_quiet_step (fail))); exact wpQuiet_nil rfl)); (focus (exact makes_new fun w => by simp [go_sem])); rintro v w3 ⟨b3, hge3, hlt3, hblk3, rfl⟩ hb3; have hs3 := hb3.size; obtain ⟨hc3, hf3⟩ := bcell hb3; have hk3 := blk_cell hblk3; have hl3 := blk_frozen hblk3; have zw3_0 : g < w3.heap.size := (by omega); have yw3_0 : g < w3.heap.size + 1 := (by omega); simp only [List.length_cons, List.length_nil, Nat.reduceAdd, Nat.reduceSub, List.take_succ_cons, List.take_zero, List.drop_succ_cons, List.drop_zero, List.cons_append, List.nil_append, List.append_nil])
              have l0' : w3.cell? ⟨g, o + J * 3, none⟩ = some (.int .i64 (xj : Int)) := by rw [hc3 _ _ y2]; exact l0
              have l1' : w3.cell? ⟨g, o + J * 3 + 1, none⟩ = some (.int .i64 (yj : Int)) := by rw [hc3 _ _ y2]; exact l1
              have l2' : w3.cell? ⟨g, o + J * 3 + 2, none⟩ = some (.int .i32 (rj : Int)) := by rw [hc3 _ _ y2]; exact l2
              have HO3 := hid (And.intro (HO2.out.1.trans (hb3.mono hs1')) (own_below' HO2.out.2 hb3))
              have HBK := hid hblk3
              have HNE : Hid ((Value.slice A nL cc).ownBlock ≠ some b3) := hid fun e => by have := own_lt HO2.out.2 (Nat.le_refl _) _ e; omega
              have hy3 : g < w3.heap.size := by omega
              have hs3' := HO3.out.1.size
              clear k0 k2 l0 l1 l2 hc3 hf3 hk3 hl3 hblk3 HO2 hb3
              go_wp2_with (
                at_builtin
                refine append_str rfl _ _ rfl w1.heap.size (.slice A nL cc) L nL HLL.out b3 (s.extract xb xj) (s.extract xb xj).data.toList (ba_eq _) rfl rfl HO3.out.2 HBK.out HNE.out (by omega) (by omega) (fun v' w4 m1 m2 m3 => ?_)
                have hga : g < w1.heap.size := hg
                have hm := m2.block g hy3 (fun e => by have := own_ge HO3.out.2 g e.symm; omega)
                have n0 : w4.cell? ⟨g, o + J * 3, none⟩ = some (.int .i64 (xj : Int)) := by rw [World.cell?_of_block hm]; exact l0'
                have n1 : w4.cell? ⟨g, o + J * 3 + 1, none⟩ = some (.int .i64 (yj : Int)) := by rw [World.cell?_of_block hm]; exact l1'
                have n2 : w4.cell? ⟨g, o + J * 3 + 2, none⟩ = some (.int .i32 (rj : Int)) := by rw [World.cell?_of_block hm]; exact l2'
                obtain ⟨A', cc', rfl⟩ := own_shape m1
                have HB4 := hid (HO3.out.1.grown m2 hs3' (own_ge HO3.out.2))
                have HO4 := hid m1
                have hs4 : w3.heap.size ≤ w4.heap.size := m2.size
                have y4 : g < w4.heap.size := by omega
                clear m1 m2 m3 hm l0' l1' l2' HO3 HBK HNE)
              refine (CJ _).mono ?_
              rintro e w5 ⟨rfl, hb5⟩
              have p2 : w5.cell? ⟨g, o + J * 3 + 2, none⟩ = some (.int .i32 (rj : Int)) := by rw [(bcell hb5).1 _ _ y4]; exact n2
              have hs5 := hb5.size
              have y5 : g < w5.heap.size := by omega
              have HO5 := hid (And.intro (HB4.out.trans (hb5.mono HB4.out.size)) (own_below' HO4.out hb5))
              clear hb5 HB4 HO4 n0 n1 n2
              go_wp2
              go_roundg ((P.length - J) * (P.length + 1) + (P.length - (J + 1)))
              case measure =>
                have q1 : ((P.length - J) + 1) * (P.length + 1) ≤ (P.length - b) * (P.length + 1) := Nat.mul_le_mul_right _ (by omega)
                rw [Nat.add_mul] at q1
                omega
              case rel => exact ⟨J, J + 1, dj, 1, nL + 1, ((J : Nat) : Int), L ++ [(s.extract xb xj).data.toList], A', cc', rfl, by go_num, by go_num, rfl, by go_num, by rw [List.length_append, HLL.out]; rfl, hjP, by omega, by omega, by omega, by omega, .inr ⟨by omega, by omega⟩, by omega, by omega, Nat.le_refl _, HRE, hid (by rw [HLN.out, show J + 1 - J = 1 by omega]; rw [if_pos hj32]), HO5⟩
            · have hj32' : ¬ ((rj : Int) = 32) := by omega
              have hjbe : ((rj : Int) == 32) = false := by simpa using hj32'
              have CJ := fun z => pcells_any xj yj rj z
              rw [hdj] at CJ
              (try rw [show (rj : Int) = 32 from hj32'] at CJ)
              have hjo' : (xb : Int) ≤ (xj : Int) := by omega
              have hjs' : (xj : Int) ≤ (s.size : Int) := by omega
              have HRE := hid (show (L ++ [(s.extract xb xj).data.toList]) ++ parB c (s.data.toList.drop (off P J)) = R by rw [hxj]; exact hres)
              have HLN := hid hln
              have hbP' : (b : Int) < (P.length : Int) := by omega
              have hjP' : ((J : Nat) : Int) < (P.length : Int) := by omega
              clear hq hres hln hst hxb hxj hyj hdj b1 b2
              go_wp2_with fail
              refine (CC _).mono ?_
              rintro e w2 ⟨rfl, hb2⟩
              have hs2 := hb2.size
              have hcc := (bcell hb2).1
              have k0 : w2.cell? ⟨g, o + b * 3, none⟩ = some (.int .i64 (xb : Int)) := by rw [hcc _ _ (by omega)]; exact b0
              have k2 : w2.cell? ⟨g, o + i * 3 + 2, none⟩ = some (.int .i32 (r : Int)) := by rw [hcc _ _ (by omega)]; exact c2
              have l0 : w2.cell? ⟨g, o + J * 3, none⟩ = some (.int .i64 (xj : Int)) := by rw [hcc _ _ (by omega)]; exact j0
              have l1 : w2.cell? ⟨g, o + J * 3 + 1, none⟩ = some (.int .i64 (yj : Int)) := by rw [hcc _ _ (by omega)]; exact j1
              have l2 : w2.cell? ⟨g, o + J * 3 + 2, none⟩ = some (.int .i32 (rj : Int)) := by rw [hcc _ _ (by omega)]; exact j2
              have y2 : g < w2.heap.size := by omega
              have HO2 := hid (And.intro (HO.out.1.trans (hb2.mono hsr)) (own_below' HO.out.2 hb2))
              have hs1' := HO2.out.1.size
              clear hb2 HO c2 b0 j0 j1 j2 hcc CC
              go_wp2
              (apply region_make1 (Good := NewCells w2 (fun b => .slice (some ⟨b, 0, none⟩) 1 1) #[.string (s.extract xb xj)] 9) (W := w2) 14 13 mixed rfl rfl (by kernel_rfl) (by decide) NewCells.mono; (focus (intro V hV; have hsV := hV.size; obtain ⟨hcV, hfV⟩ := bcell hV; have zV_0 : g < V.heap.size := (by omega); have yV_0 : g < V.heap.size + 1 := (by omega); simp only [List.length_cons, List.length_nil, Nat.reduceAdd, Nat.reduceSub, List.take_succ_cons, List.take_zero, List.drop_succ_cons, List.drop_zero, List.cons_append, List.nil_append, List.append_nil]; (repeat (go_big_quiet_step (fail))); exact wpQuiet_nil rfl)); (focus (exact makes_new fun w => by simp [go_sem])); rintro v w3 ⟨b3, hge3, hlt3, hblk3, rfl⟩ hb3; have hs3 := hb3.size; obtain ⟨hc3, hf3⟩ := bcell hb3; have hk3 := blk_cell hblk3; have hl3 := blk_frozen hblk3; have zw3_0 : g < w3.heap.size := (by omega); have yw3_0 : g < w3.heap.size + 1 := (by omega); simp only [List.length_cons, List.length_nil, Nat.reduceAdd, Nat.reduceSub, List.take_succ_cons, List.take_zero, List.drop_succ_cons, List.drop_zero, List.cons_append, List.nil_append, List.append_nil])
              have l0' : w3.cell? ⟨g, o + J * 3, none⟩ = some (.int .i64 (xj : Int)) := by rw [hc3 _ _ y2]; exact l0
              have l1' : w3.cell? ⟨g, o + J * 3 + 1, none⟩ = some (.int .i64 (yj : Int)) := by rw [hc3 _ _ y2]; exact l1
              have l2' : w3.cell? ⟨g, o + J * 3 + 2, none⟩ = some (.int .i32 (rj : Int)) := by rw [hc3 _ _ y2]; exact l2
              have HO3 := hid (And.intro (HO2.out.1.trans (hb3.mono hs1')) (own_below' HO2.out.2 hb3))
              have HBK := hid hblk3
              have HNE : Hid ((Value.slice A nL cc).ownBlock ≠ some b3) := hid fun e => by have := own_lt HO2.out.2 (Nat.le_refl _) _ e; omega
              have hy3 : g < w3.heap.size := by omega
              have hs3' := HO3.out.1.size
              clear k0 k2 l0 l1 l2 hc3 hf3 hk3 hl3 hblk3 HO2 hb3
              go_wp2_with (
                at_builtin
                refine append_str rfl _ _ rfl w1.heap.size (.slice A nL cc) L nL HLL.out b3 (s.extract xb xj) (s.extract xb xj).data.toList (ba_eq _) rfl rfl HO3.out.2 HBK.out HNE.out (by omega) (by omega) (fun v' w4 m1 m2 m3 => ?_)
                have hga : g < w1.heap.size := hg
                have hm := m2.block g hy3 (fun e => by have := own_ge HO3.out.2 g e.symm; omega)
                have n0 : w4.cell? ⟨g, o + J * 3, none⟩ = some (.int .i64 (xj : Int)) := by rw [World.cell?_of_block hm]; exact l0'
                have n1 : w4.cell? ⟨g, o + J * 3 + 1, none⟩ = some (.int .i64 (yj : Int)) := by rw [World.cell?_of_block hm]; exact l1'
                have n2 : w4.cell? ⟨g, o + J * 3 + 2, none⟩ = some (.int .i32 (rj : Int)) := by rw [World.cell?_of_block hm]; exact l2'
                obtain ⟨A', cc', rfl⟩ := own_shape m1
                have HB4 := hid (HO3.out.1.grown m2 hs3' (own_ge HO3.out.2))
                have HO4 := hid m1
                have hs4 : w3.heap.size ≤ w4.heap.size := m2.size
                have y4 : g < w4.heap.size := by omega
                clear m1 m2 m3 hm l0' l1' l2' HO3 HBK HNE)
              refine (CJ _).mono ?_
              rintro e w5 ⟨rfl, hb5⟩
              have p2 : w5.cell? ⟨g, o + J * 3 + 2, none⟩ = some (.int .i32 (rj : Int)) := by rw [(bcell hb5).1 _ _ y4]; exact n2
              have hs5 := hb5.size
              have y5 : g < w5.heap.size := by omega
              have HO5 := hid (And.intro (HB4.out.trans (hb5.mono HB4.out.size)) (own_below' HO4.out hb5))
              clear hb5 HB4 HO4 n0 n1 n2
              go_wp2
              go_roundg ((P.length - J) * (P.length + 1) + (P.length - (J + 1)))
              case measure =>
                have q1 : ((P.length - J) + 1) * (P.length + 1) ≤ (P.length - b) * (P.length + 1) := Nat.mul_le_mul_right _ (by omega)
                rw [Nat.add_mul] at q1
                omega
              case rel => exact ⟨J, J + 1, dj, 0, nL + 1, ((J : Nat) : Int) - 1, L ++ [(s.extract xb xj).data.toList], A', cc', rfl, by go_num, by go_num, rfl, by go_num, by rw [List.length_append, HLL.out]; rfl, hjP, by omega, by omega, by omega, by omega, .inl ⟨by omega, rfl⟩, by omega, by omega, Nat.le_refl _, HRE, hid (by rw [HLN.out, show J + 1 - J = 1 by omega]; rw [if_neg hj32]), HO5⟩
      · rw [if_neg hbr] at hst
        have hbr2 : c < (n : Int) + (d : Int) → ¬ ((b : Int) < (i : Int)) := fun h1 h2 => hbr ⟨by omega, by omega⟩
        have HBR := hid hbr2
        clear hbr hbr2
        by_cases hgt : c < (n : Int) + (d : Int)
        · have hib : ¬ ((b : Int) < (i : Int)) := HBR.out hgt
          by_cases h32 : r = 32
          · skip
            have h32' : (r : Int) = 32 := by omega
            rw [if_pos h32] at hst
            rw [h32'] at CC
            have HN2 := hid (HN.out.trans hst)
            clear hst HX HY HD HRI
            go_wp2_with fail
            refine (CC _).mono ?_
            rintro e w2 ⟨rfl, hb2⟩
            have hs2 := hb2.size
            have c2' : w2.cell? ⟨g, o + i * 3 + 2, none⟩ = some (.int .i32 (r : Int)) := by rw [(bcell hb2).1 _ _ (by omega)]; exact c2
            have y2 : g < w2.heap.size := by omega
            have HO2 := hid (And.intro (HO.out.1.trans (hb2.mono hsr)) (own_below' HO.out.2 hb2))
            clear hb2 HO c0 c1 c2
            go_wp2
            go_roundg ((P.length - b) * (P.length + 1) + (P.length - (i + 1)))
            case measure => omega
            case rel => exact ⟨b, i + 1, n + d, i - b + 1, nL, (i : Int), L, A, cc, rfl, rfl, rfl, by go_num, by go_num, HLL.out, hbP, by omega, by omega, by omega, by omega, .inr ⟨by omega, by omega⟩, by omega, hnb, by omega, HQ, hid (by rw [show i + 1 - b = i - b + 1 by omega]; exact HN2.out), HO2⟩
          · skip
            have h32' : ¬ ((r : Int) = 32) := by omega
            have hbe : ((r : Int) == 32) = false := by simpa using h32'
            rw [if_neg h32] at hst
            have HN2 := hid (HN.out.trans hst)
            clear hst HX HY HD HRI
            go_wp2_with fail
            refine (CC _).mono ?_
            rintro e w2 ⟨rfl, hb2⟩
            have hs2 := hb2.size
            have c2' : w2.cell? ⟨g, o + i * 3 + 2, none⟩ = some (.int .i32 (r : Int)) := by rw [(bcell hb2).1 _ _ (by omega)]; exact c2
            have y2 : g < w2.heap.size := by omega
            have HO2 := hid (And.intro (HO.out.1.trans (hb2.mono hsr)) (own_below' HO.out.2 hb2))
            clear hb2 HO c0 c1 c2
            go_wp2
            go_roundg ((P.length - b) * (P.length + 1) + (P.length - (i + 1)))
            case measure => omega
            case rel => exact ⟨b, i + 1, n + d, bl, nL, kb, L, A, cc, rfl, rfl, rfl, by go_num, by go_num, HLL.out, hbP, by omega, by omega, by omega, by omega, HKB.out, by omega, hnb, by omega, HQ, hid (by rw [show i + 1 - b = i - b + 1 by omega]; exact HN2.out), HO2⟩
        · skip
          by_cases h32 : r = 32
          · skip
            have h32' : (r : Int) = 32 := by omega
            rw [if_pos h32] at hst
            rw [h32'] at CC
            have HN2 := hid (HN.out.trans hst)
            clear hst HX HY HD HRI
            go_wp2_with fail
            refine (CC _).mono ?_
            rintro e w2 ⟨rfl, hb2⟩
            have hs2 := hb2.size
            have c2' : w2.cell? ⟨g, o + i * 3 + 2, none⟩ = some (.int .i32 (r : Int)) := by rw [(bcell hb2).1 _ _ (by omega)]; exact c2
            have y2 : g < w2.heap.size := by omega
            have HO2 := hid (And.intro (HO.out.1.trans (hb2.mono hsr)) (own_below' HO.out.2 hb2))
            clear hb2 HO c0 c1 c2
            go_wp2
            go_roundg ((P.length - b) * (P.length + 1) + (P.length - (i + 1)))
            case measure => omega
            case rel => exact ⟨b, i + 1, n + d, i - b + 1, nL, (i : Int), L, A, cc, rfl, rfl, rfl, by go_num, by go_num, HLL.out, hbP, by omega, by omega, by omega, by omega, .inr ⟨by omega, by omega⟩, by omega, hnb, by omega, HQ, hid (by rw [show i + 1 - b = i - b + 1 by omega]; exact HN2.out), HO2⟩
          · skip
            have h32' : ¬ ((r : Int) = 32) := by omega
            have hbe : ((r : Int) == 32) = false := by simpa using h32'
            rw [if_neg h32] at hst
            have HN2 := hid (HN.out.trans hst)
            clear hst HX HY HD HRI
            go_wp2_with fail
            refine (CC _).mono ?_
            rintro e w2 ⟨rfl, hb2⟩
            have hs2 := hb2.size
            have c2' : w2.cell? ⟨g, o + i * 3 + 2, none⟩ = some (.int .i32 (r : Int)) := by rw [(bcell hb2).1 _ _ (by omega)]; exact c2
            have y2 : g < w2.heap.size := by omega
            have HO2 := hid (And.intro (HO.out.1.trans (hb2.mono hsr)) (own_below' HO.out.2 hb2))
            clear hb2 HO c0 c1 c2
            go_wp2
            go_roundg ((P.length - b) * (P.length + 1) + (P.length - (i + 1)))
            case measure => omega
            case rel => exact ⟨b, i + 1, n + d, bl, nL, kb, L, A, cc, rfl, rfl, rfl, by go_num, by go_num, HLL.out, hbP, by omega, by omega, by omega, by omega, HKB.out, by omega, hnb, by omega, HQ, hid (by rw [show i + 1 - b = i - b + 1 by omega]; exact HN2.out), HO2⟩
    · have hli : ¬ ((i : Int) < (P.length : Int)) := by omega
      have hie : i = P.length := by omega
      have hz := HN.out
      rw [hie, List.drop_length] at hz
      have hq := HPE.out b hbP hz
      have hres : L ++ [s.data.toList.drop (off P b)] = R := by rw [← HQ.out, hq]
      have hobs := off_le_sum P b
      rw [HSM.out] at hobs
      obtain ⟨g, o, rfl, hg, c0, c1, c2⟩ := (HA.out.below HO.out.1).pr hbP
      obtain ⟨x, hx⟩ : ∃ x, off P b = x := ⟨_, rfl⟩
      rw [hx] at c0 hres hobs
      have hxs : (x : Int) ≤ (s.size : Int) := by omega
      have HRE := hid hres
      have hP0' : ¬ ((P.length : Int) = 0) := by omega
      have hP0'' : ((P.length : Int) == 0) = false := by simpa using hP0'
      have hbP' : (b : Int) < (P.length : Int) := by omega
      clear hz hq hres hx c1 c2 hie
      go_wp2_with (
        at_builtin
        refine append_str rfl _ _ rfl w.heap.size (.slice A nL cc) L nL HLL.out wr.heap.size (s.extract x s.size) (s.extract x s.size).data.toList (ba_eq _) rfl rfl (own_mono (own_below' HO.out.2 ((Below.refl _ _).alloc (Nat.le_refl _) _)) hs1) (heap_alloc_new _ _) (fun e => by have := own_lt HO.out.2 (Nat.le_refl _) _ e; omega) (by simp; omega) (by omega) (fun v' w3 k1 k2 k3 => ?_)
        obtain ⟨A', cc', rfl⟩ := own_shape k1
        have HB := hid ((((HB1.out.trans (HO.out.1.mono hs1)).alloc (by omega) _).grown k2 (by simp; omega) (fun k hk => Nat.le_trans hs1 (own_ge HO.out.2 k hk))))
        have hRL : R.length = nL + 1 := by rw [← HRE.out, List.length_append, HLL.out]; rfl
        rw [drop_bytes, HRE.out] at k1
        have HOO := hid k1
        have HRL := hid hRL
        clear k1 k2 k3 hRL)
      go_ret
      exact ⟨A', cc', by rw [HRL.out]; rfl, by rw [HRL.out]; exact HOO.out, HB.out⟩
theorem lines_any (s : ByteArray) (c : Int) (w : World) (hs : s.size ≤ 4000000) : Calls Tryd.prog 50 #[.string s, .int .i64 c] w (ParP (parE c s.data.toList) w) := by
  have hl2 : s.data.toList.length = s.size := by simp
  by_cases hc : c < 1
  · have he : parE c s.data.toList = [s.data.toList] := by unfold parE; rw [if_pos hc]
    rw [he]
    exact lines_c s c hc w
  rcases Nat.eq_zero_or_pos s.size with hz | hz
  · have he : parE c s.data.toList = [[]] := by
      unfold parE
      have : s.data.toList = [] := List.eq_nil_of_length_eq_zero (by omega)
      rw [if_neg hc, this]
      rfl
    rw [he, empty_str hz]
    exact lines_e c (by omega) w
  have hne : s.data.toList ≠ [] := fun h => by rw [h] at hl2; simp at hl2; omega
  have he : parE c s.data.toList = parB c s.data.toList := by unfold parE; rw [if_neg hc, if_neg hne]
  rw [he]
  exact lines_n s c (by omega) hz w hs
end Go.Proofs.YtoelmcmdiamnnaaDoor
