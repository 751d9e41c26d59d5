/- Layer 21: bracket and letter of the reference. -/
import Derived.Test.YtddigbhijfpmkaaDoorKeRb
import Derived.Test.YtddigbhijfpmkaaDoorKeR
import Derived.Laws.IdiomStrings
namespace Go.Proofs.YtddigbhijfpmkaaDoor
set_option linter.unusedVariables false
set_option linter.unusedSimpArgs false
set_option maxRecDepth 100000
open Go.RowKit Go.Shelf Go.Lib
set_option maxRecDepth 100000
set_option maxHeartbeats 4000000

theorem rbracket_any (s : ByteArray) (w : World) (h2 : 2 ≤ s.size) (hs : s.size ≤ 4000000) : Calls Tryd.prog 37 #[.string s] w fun e w' => e = .returned (pV (bracketL s.data.toList)) ∧ Below w.heap.size w w' := by
  obtain ⟨Z, hZ⟩ : ∃ x, bracketL s.data.toList = x := ⟨_, rfl⟩
  rw [hZ]
  obtain ⟨I, hI⟩ : ∃ x, 2 + numRun (s.data.toList.drop 2) = x := ⟨_, rfl⟩
  have hz : Z = if I = s.size then (noKy, 0) else if 64 ≤ (s.data.toList.getD I 0).toNat ∧ (s.data.toList.getD I 0).toNat ≤ 126 then (listedL ((s.data.toList.take I).drop 2) (s.data.toList.getD I 0).toNat, I + 1) else (noKy, I) := by
    rw [← hZ, ← hI, ← ba_len]
    rfl
  have HZ := hid hz
  have HI := hid hI
  clear hZ hI hz
  have hB1 := (Below.refl w.heap.size w).alloc (Nat.le_refl _) (.cells #[.string { data := #[] }, .int .u8 0] 31)
  have CL := fun b (w1 : World) => rlisted_any (s.extract 2 I) b w1 (by rw [ByteArray.size_extract]; omega)
  rw [ba_sub] at CL
  have HCL := hid CL
  clear CL
  go_enter Tryd.func37, Tryd.ntmps37
  go_wp2
  go_loopw [4] (fun v wr => ∃ i : Nat, v = .int .i64 i ∧ 2 ≤ i ∧ i ≤ s.size ∧ Hid (i + numRun (s.data.toList.drop i) = I) ∧ wr = w.alloc (.cells #[.string { data := #[] }, .int .u8 0] 31)) (fun v _ => s.size - (RowKit.intOf v).toNat)
  case atStart => exact ⟨2, rfl, Nat.le_refl _, h2, HI, rfl⟩
  case round =>
    obtain ⟨i, rfl, hi2, his, HN, rfl⟩ := hrel
    have hn := HN.out
    by_cases hl : i < s.size
    · have i1 : (i : Int) < (s.size : Int) := by omega
      have i2 : decide ((i : Int) < (s.size : Int)) = true := decide_eq_true i1
      have i3 : decide (i < s.size) = true := decide_eq_true hl
      rw [num_run_at hl] at hn
      have hgd : s.data.toList.getD i 0 = s[i] := by
        rw [List.getD_eq_getElem?_getD, List.getElem?_eq_getElem (by rw [ba_len]; exact hl)]
        rfl
      by_cases hr : 32 ≤ s[i].toNat ∧ s[i].toNat ≤ 63
      · rw [if_pos hr] at hn
        have r1 : decide ((32 : Int) ≤ (s[i].toNat : Int)) = true := decide_eq_true (by omega)
        have r2 : decide ((s[i].toNat : Int) ≤ 63) = true := decide_eq_true (by omega)
        have HN2 := hid (show i + 1 + numRun (s.data.toList.drop (i + 1)) = I by omega)
        clear hn hr
        go_wp2
        go_roundw
        case rel => exact ⟨i + 1, by go_num, by omega, by omega, HN2, trivial⟩
        case measure => simp [RowKit.intOf]; omega
      · rw [if_neg hr, Nat.add_zero] at hn
        subst hn
        have hz := HZ.out
        rw [if_neg (by omega), hgd] at hz
        have e1 : ((i : Int) == (s.size : Int)) = false := beq_eq_false_iff_ne.2 (by omega)
        have hcond : (decide ((32 : Int) ≤ (s[i].toNat : Int)) = false) ∨ (decide ((32 : Int) ≤ (s[i].toNat : Int)) = true ∧ decide ((s[i].toNat : Int) ≤ 63) = false) := by
          by_cases h : 32 ≤ s[i].toNat
          · exact .inr ⟨decide_eq_true (by omega), decide_eq_false (by omega)⟩
          · exact .inl (decide_eq_false (by omega))
        obtain ⟨x, hx⟩ : ∃ x, s[i].toNat = x := ⟨_, rfl⟩
        have hx8 : x < 256 := by rw [← hx]; exact s[i].toNat_lt
        rw [hx] at hz hcond
        have C := HCL.out x
        have HX := hid hx
        clear hr hgd HN HI
        by_cases hin : 64 ≤ x ∧ x ≤ 126
        · rw [if_pos hin] at hz
          obtain ⟨y1, y2⟩ := hin
          have z1 : decide ((64 : Int) ≤ (x : Int)) = true := decide_eq_true (by omega)
          have z2 : decide ((x : Int) ≤ 126) = true := decide_eq_true (by omega)
          have HZ2 := hid hz
          clear hz y1 y2
          rcases hcond with h | ⟨h, h'⟩
          all_goals
            go_wp2
            obtain ⟨k, hk⟩ : ∃ k, listedL ((s.data.toList.take i).drop 2) x = k := ⟨_, rfl⟩
            rw [hk] at C HZ2
            have h2i : (2 : Int) ≤ (i : Int) := by omega
            have hwr : IntKind.i64.wrap ((i : Int) + 1) = (i : Int) + 1 := IntWalk.i64_in _ (by omega)
            have hR : ∃ a b, Box2 (w.alloc (.cells #[.string { data := #[] }, .int .u8 0] 31)) w.heap.size a b := ⟨_, 0, box_new w _ 0⟩
            refine region_monoS 10 [[], [], [0, 1], [], [], [3, 4], [2, 5], [], [7], [6]] (StE w.heap.size ⟨k.nm.toArray⟩ k.md) (pick [IsV (.string s), IsV (.int .i64 (i : Int)), IsV (.string (s.extract 2 i)), IsV (.string s), IsV (.int .i64 (i : Int)), IsV (.int .u8 (s[i].toNat : Int)), IsV (kyV k), IsV (.int .i64 (i : Int)), IsV (.int .i64 ((i : Int) + 1)), BoxV w.heap.size ⟨k.nm.toArray⟩ k.md]) mixed (by kernel_rfl) (by simp [noSlot]) (StE.of_below (Below.refl _ _).drew) (fun _ _ _ => StE.trans) (pick_stableE ?_) ?_ ?_
            · simp only [List.mem_cons, List.not_mem_nil, or_false, forall_eq_or_imp, forall_eq]
              exact ⟨fun _ _ _ h _ => h, fun _ _ _ h _ => h, fun _ _ _ h _ => h, fun _ _ _ h _ => h, fun _ _ _ h _ => h, fun _ _ _ h _ => h, fun _ _ _ h _ => h, fun _ _ _ h _ => h, fun _ _ _ h _ => h, fun _ _ _ h he => he.done h⟩
            · simp only [List.take_succ_cons, List.take_zero, MonoObS, DepS, dsS, List.map_cons, List.map_nil]
              refine ⟨?_, ?_, ?_, ?_, ?_, ?_, ?_, ?_, ?_, ?_, trivial⟩
              all_goals simp [go_sem, upon2, pick, IsV, BoxV, kyV, noSlot, his, hl, h2i]
              all_goals intro w1 hw1
              · exact StE.of_below (Below.refl _ _)
              · exact StE.of_below (Below.refl _ _)
              · exact StE.of_below (Below.refl _ _)
              · exact StE.of_below (Below.refl _ _)
              · exact StE.of_below (Below.refl _ _)
              · exact StE.of_below (Below.refl _ _)
              · rw [hx, ba_sub]
                have C1 := C w1
                with_reducible refine Calls.mono C1 ?_
                rintro e w2 ⟨he, hb⟩
                exact ⟨_, he, rfl, StE.of_below hb⟩
              · exact StE.of_below (Below.refl _ _)
              · exact ⟨hwr, StE.of_below (Below.refl _ _)⟩
              · obtain ⟨a, b, bx⟩ := hw1.alive hR
                obtain ⟨c0, c1, f0, f1⟩ := bx
                simp [go_sem, c0, c1, f0, f1]
                exact ⟨Box2.store ⟨c0, c1, f0, f1⟩ _ _, StE.store ⟨a, b, c0, c1, f0, f1⟩⟩
            · intro w4 hb4
              simp only [show List.range 10 = [0, 1, 2, 3, 4, 5, 6, 7, 8, 9] from rfl, DepS, dsS, List.map_cons, List.map_nil, List.take_succ_cons, List.take_zero]
              simp only [pick, IsV, BoxV, noSlot, List.getD_cons_succ, List.getD_cons_zero, Option.getD_some, Option.getD_none, Nat.reduceEqDiff, reduceIte]
              rintro _ rfl _ rfl _ rfl _ rfl _ rfl _ rfl _ rfl _ rfl _ rfl _ bxe
              have hB4 := below_turn hB1 (by simp) hb4.t (fun j hj e => by omega)
              obtain ⟨c0, c1, c2, c3⟩ := bxe

              simp only [List.getD_cons_succ, List.getD_cons_zero, List.drop_succ_cons, List.drop_zero]
              go_wp2
              refine bodyPost_ret (v := .tuple #[.agg #[.string ⟨k.nm.toArray⟩, .int .u8 (k.md : Int)], .int .i64 ((i : Int) + 1)]) (by simp [results, Tryd.results37, go_sem, *]) rfl ⟨by rw [HZ2.out]; rfl, by (repeat first | with_reducible exact hB4 | refine Below.setCell ?_ (by first | exact Nat.le_refl _ | (simp; omega)) _ | refine Below.alloc ?_ (by simp; omega) _)⟩
        · rw [if_neg hin] at hz
          have HZ2 := hid hz
          have hc2 : (decide ((64 : Int) ≤ (x : Int)) = false) ∨ (decide ((64 : Int) ≤ (x : Int)) = true ∧ decide ((x : Int) ≤ 126) = false) := by
            by_cases h : 64 ≤ x
            · exact .inr ⟨decide_eq_true (by omega), decide_eq_false (by omega)⟩
            · exact .inl (decide_eq_false (by omega))
          clear hz hin
          rcases hcond with h | ⟨h, h'⟩
          all_goals
            rcases hc2 with k | ⟨k, k'⟩
          all_goals
            go_wp2
            refine bodyPost_ret (v := .tuple #[.agg #[.string { data := #[] }, .int .u8 0], .int .i64 (i : Int)]) (by simp [results, Tryd.results37, go_sem, *]) rfl ⟨by rw [HZ2.out]; rfl, by (repeat first | with_reducible exact hB1 | refine Below.setCell ?_ (by first | exact Nat.le_refl _ | (simp; omega)) _ | refine Below.alloc ?_ (by simp; omega) _)⟩
    · have i1 : ¬ ((i : Int) < (s.size : Int)) := by omega
      have i2 : decide ((i : Int) < (s.size : Int)) = false := decide_eq_false i1
      have i3 : decide (i < s.size) = false := decide_eq_false hl
      have e1 : ((i : Int) == (s.size : Int)) = true := beq_iff_eq.2 (by omega)
      rw [List.drop_of_length_le (by rw [ba_len]; omega)] at hn
      have hz := HZ.out
      rw [if_pos (by rw [← hn]; show i + 0 = _; omega)] at hz
      have HZ2 := hid hz
      clear hn hz
      go_wp2
      refine bodyPost_ret (v := .tuple #[.agg #[.string { data := #[] }, .int .u8 0], .int .i64 0]) (by simp [results, Tryd.results37, go_sem, *]) rfl ⟨by rw [HZ2.out]; rfl, by (repeat first | with_reducible exact hB1 | refine Below.setCell ?_ (by first | exact Nat.le_refl _ | (simp; omega)) _ | refine Below.alloc ?_ (by simp; omega) _)⟩

theorem conv_one (W : World) (b n : Nat) (hb : W.heap[b]? = some (.cells #[.int .u8 (n : Int)] 5 (0, 0))) (hn : n < 256) : (convert 71 9 (.slice (some ⟨b, 0, none⟩) 1 1)).run Tryd.prog W = .ok (.string ⟨#[n.toUInt8]⟩) W := by
  have e : n.toUInt8.toNat = n := by
    simp
    omega
  have h := run_convert_bytes_back W 71 9 5 ⟨b, 0, none⟩ 1 [n.toUInt8] Tryd.underlying71 Tryd.underlying5 Tryd.underlying9 (fun j hj => by
    obtain rfl : j = 0 := by simpa using hj
    have h0 := blk_cell hb 0
    simp only [List.getElem_cons_zero]
    rw [e]
    simpa [Addr.add] using h0)
  exact h
theorem ba_append' (a b : ByteArray) : (a ++ b).data.toList = a.data.toList ++ b.data.toList := by simp
theorem arr_far {x : Nat} (h : 80 ≤ x) : arrL x = [] := arr_none (by omega) (by omega) (by omega) (by omega) (by omega) (by omega)
theorem rletter_any (s : ByteArray) (w : World) (h2 : 2 ≤ s.size) (hs : s.size ≤ 4000000) : Calls Tryd.prog 38 #[.string s] w fun e w' => e = .returned (pV (letterL s.data.toList)) ∧ Below w.heap.size w w' := by
  obtain ⟨Z, hZ⟩ : ∃ x, letterL s.data.toList = x := ⟨_, rfl⟩
  rw [hZ]
  unfold letterL at hZ
  rw [ba_len] at hZ
  have hB1 := (Below.refl w.heap.size w).alloc (Nat.le_refl _) (.cells #[.string { data := #[] }, .int .u8 0] 31)
  by_cases hl : s.size = 2
  · rw [if_pos hl] at hZ
    have HZ := hid hZ.symm
    have l1 : ((s.size : Int) == 2) = true := beq_iff_eq.2 (by omega)
    clear hZ
    go_enter Tryd.func38, Tryd.ntmps38
    go_wp2
    refine bodyPost_ret (v := .tuple #[.agg #[.string { data := #[] }, .int .u8 0], .int .i64 0]) (by simp [results, Tryd.results38, go_sem, *]) rfl ⟨by rw [HZ.out]; rfl, by (repeat first | with_reducible exact hB1 | refine Below.setCell ?_ (by first | exact Nat.le_refl _ | (simp; omega)) _ | refine Below.alloc ?_ (by simp; omega) _)⟩
  · rw [if_neg hl] at hZ
    have l1 : ((s.size : Int) == 2) = false := beq_eq_false_iff_ne.2 (by omega)
    have l2 : 2 < s.size := by omega
    have hgd : s.data.toList.getD 2 0 = s[2] := by
      rw [List.getD_eq_getElem?_getD, List.getElem?_eq_getElem (by rw [ba_len]; exact l2)]
      rfl
    rw [hgd] at hZ
    obtain ⟨x, hx⟩ : ∃ x, s[2].toNat = x := ⟨_, rfl⟩
    have hx8 : x < 256 := by rw [← hx]; exact s[2].toNat_lt
    rw [hx] at hZ
    have C := arrow_any x (w.alloc (.cells #[.string { data := #[] }, .int .u8 0] 31))
    clear hgd
    by_cases hp : 80 ≤ x ∧ x ≤ 83
    · rw [if_pos hp] at hZ
      have HZ := hid hZ.symm
      have p1 : decide ((80 : Int) ≤ (x : Int)) = true := decide_eq_true (by omega)
      have p2 : decide ((x : Int) ≤ 83) = true := decide_eq_true (by omega)
      have p3 : (80 : Int) ≤ (x : Int) := by omega
      have p4 : (x : Int) ≤ 83 := by omega
      rw [arr_far hp.1] at C
      obtain ⟨d, hd⟩ : ∃ d, x - 31 = d := ⟨_, rfl⟩
      have hdi : 49 + (x : Int) - 80 = (d : Int) := by omega
      have hcv := conv_one (((w.alloc (.cells #[.string { data := #[] }, .int .u8 0] 31)).alloc (.cells #[.string { data := #[] }, .int .u8 0] 31)).alloc (.cells #[.int .u8 (d : Int)] 5)) (w.heap.size + 1 + 1) d (by
        have := World.alloc_heap_new ((w.alloc (.cells #[.string { data := #[] }, .int .u8 0] 31)).alloc (.cells #[.string { data := #[] }, .int .u8 0] 31)) (.cells #[.int .u8 (d : Int)] 5)
        simpa using this) (by omega)
      obtain ⟨E, hE⟩ : ∃ E, (⟨#[d.toUInt8]⟩ : ByteArray) = E := ⟨_, rfl⟩
      rw [hE] at hcv
      have hes : E.size = 1 := by rw [← hE]; rfl
      have HE := hid hE
      rw [hd] at HZ
      have hne : ((⟨#[102]⟩ : ByteArray) ++ E).toList = 102 :: E.data.toList := by rw [ByteArray.toList_eq, ba_append']; rfl
      clear hZ hp hE hd
      go_enter Tryd.func38, Tryd.ntmps38
      go_wp2_with fail
      with_reducible refine C.mono ?_
      rintro e w' ⟨rfl, rfl⟩
      go_wp2
      refine bodyPost_ret (v := .tuple #[.agg #[.string (⟨#[102]⟩ ++ E), .int .u8 0], .int .i64 3]) (by simp [results, Tryd.results38, go_sem, *]) rfl ⟨by rw [HZ.out, ← HE.out]; rfl, (((Below.refl _ _).alloc (Nat.le_refl _) _).alloc (by simp) _).alloc (by simp; omega) _⟩
    · rw [if_neg hp] at hZ
      have hcond : (decide ((80 : Int) ≤ (x : Int)) = false) ∨ (decide ((80 : Int) ≤ (x : Int)) = true ∧ decide ((x : Int) ≤ 83) = false) := by
        by_cases h : 80 ≤ x
        · exact .inr ⟨decide_eq_true (by omega), decide_eq_false (by omega)⟩
        · exact .inl (decide_eq_false (by omega))
      obtain ⟨nm, hnm⟩ : ∃ y, arrL x = y := ⟨_, rfl⟩
      rw [hnm] at C hZ
      have he := toList_nil nm
      obtain ⟨nb, hnb⟩ : ∃ y, (⟨nm.toArray⟩ : ByteArray) = y := ⟨_, rfl⟩
      rw [hnb] at C he
      have HNB := hid hnb
      clear hp hnm hnb
      by_cases hn : nm = []
      · rw [if_pos hn] at hZ
        have he2 : (nb.toList == []) = true := by rw [he]; exact decide_eq_true hn
        have HN := hid hn
        have HZ := hid hZ
        clear hZ he hn
        rcases hcond with q | ⟨q, q'⟩
        all_goals
          go_enter Tryd.func38, Tryd.ntmps38
          go_wp2_with fail
          with_reducible refine C.mono ?_
          rintro e w' ⟨rfl, rfl⟩
          go_wp2
          refine bodyPost_ret (v := .tuple #[.agg #[.string nb, .int .u8 0], .int .i64 2]) (by simp [results, Tryd.results38, go_sem, *]) rfl ⟨by rw [← HZ.out, ← HNB.out, HN.out]; rfl, ((Below.refl _ _).alloc (Nat.le_refl _) _).alloc (by simp) _⟩
      · rw [if_neg hn] at hZ
        have he2 : (nb.toList == []) = false := by rw [he]; exact decide_eq_false hn
        have HZ := hid hZ
        clear hZ he hn
        rcases hcond with q | ⟨q, q'⟩
        all_goals
          go_enter Tryd.func38, Tryd.ntmps38
          go_wp2_with fail
          with_reducible refine C.mono ?_
          rintro e w' ⟨rfl, rfl⟩
          go_wp2
          refine bodyPost_ret (v := .tuple #[.agg #[.string nb, .int .u8 0], .int .i64 3]) (by simp [results, Tryd.results38, go_sem, *]) rfl ⟨by rw [← HZ.out, ← HNB.out]; rfl, ((Below.refl _ _).alloc (Nat.le_refl _) _).alloc (by simp) _⟩
end Go.Proofs.YtddigbhijfpmkaaDoor
