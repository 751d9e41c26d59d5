/- Layer 21: letter of the program. -/
import Derived.Test.YtddigbhijfpmkaaDoorKeR
namespace Go.Proofs.YtddigbhijfpmkaaDoor
set_option linter.unusedVariables false
set_option linter.unusedSimpArgs false
set_option maxRecDepth 100000
open Go.RowKit Go.Shelf Go.Lib
set_option maxRecDepth 100000
set_option maxHeartbeats 4000000

/-- A row of the tables in memory. -/
def RowAt (w : World) (g : Nat) (nm : ByteArray) : Prop := w.cell? ⟨g, 0, none⟩ = some (.string nm) ∧ w.frozen? ⟨g, 0, none⟩ = false
theorem enc_f : ∀ x : Nat, x < 84 → 80 ≤ x → Utf8.encode (49 + (x : Int) - 80) = ⟨#[(x - 31).toUInt8]⟩ := by decide
theorem letter_any (s : ByteArray) (w : World) (h2 : 2 ≤ s.size) (hs : s.size ≤ 4000000) : Calls Tryd.prog 35 #[.string s] w fun e w' => e = .returned (pV (letterL s.data.toList)) ∧ Below w.heap.size w w' := by
  obtain ⟨Z, hZ⟩ : ∃ x, letterL s.data.toList = x := ⟨_, rfl⟩
  rw [hZ]
  unfold letterL at hZ
  rw [ba_len] at hZ
  have hB1 := (Below.refl w.heap.size w).alloc (Nat.le_refl _) (.cells #[.string { data := #[] }, .int .u8 0] 31)
  by_cases hl : s.size = 2
  · rw [if_pos hl] at hZ
    have HZ := hid hZ.symm
    have l1 : ((s.size : Int) == 2) = true := beq_iff_eq.2 (by omega)
    clear hZ
    go_enter Tryd.func35, Tryd.ntmps35
    go_wp2
    refine bodyPost_ret (v := .tuple #[.agg #[.string { data := #[] }, .int .u8 0], .int .i64 0]) (by simp [results, Tryd.results35, go_sem, *]) rfl ⟨by rw [HZ.out]; rfl, by (repeat first | with_reducible exact hB1 | refine Below.setCell ?_ (by first | exact Nat.le_refl _ | (simp; omega)) _ | refine Below.alloc ?_ (by simp; omega) _)⟩
  · rw [if_neg hl] at hZ
    have l1 : ((s.size : Int) == 2) = false := beq_eq_false_iff_ne.2 (by omega)
    have l2 : 2 < s.size := by omega
    have hgd : s.data.toList.getD 2 0 = s[2] := by
      rw [List.getD_eq_getElem?_getD, List.getElem?_eq_getElem (by rw [ba_len]; exact l2)]
      rfl
    rw [hgd] at hZ
    obtain ⟨x, hx⟩ : ∃ x, s[2].toNat = x := ⟨_, rfl⟩
    have hx8 : x < 256 := by rw [← hx]; exact s[2].toNat_lt
    rw [hx] at hZ
    by_cases hp : 80 ≤ x ∧ x ≤ 83
    · rw [if_pos hp] at hZ
      have HZ := hid hZ.symm
      have p1 : decide ((80 : Int) ≤ (x : Int)) = true := decide_eq_true (by omega)
      have p2 : decide ((x : Int) ≤ 83) = true := decide_eq_true (by omega)
      have HE := hid (enc_f x (by omega) hp.1)
      have p3 : (80 : Int) ≤ (x : Int) := by omega
      have p4 : (x : Int) ≤ 83 := by omega
      have hes : (Utf8.encode (49 + (x : Int) - 80)).size = 1 := by rw [HE.out]; rfl
      obtain ⟨E, hE⟩ : ∃ y, Utf8.encode (49 + (x : Int) - 80) = y := ⟨_, rfl⟩
      rw [hE] at hes
      have HEE := hid (hE.symm.trans HE.out)
      clear hZ hgd hp HE
      go_enter Tryd.func35, Tryd.ntmps35
      go_wp2
      refine bodyPost_ret (v := .tuple #[.agg #[.string (⟨#[102]⟩ ++ E), .int .u8 0], .int .i64 3]) (by simp [results, Tryd.results35, go_sem, *]) rfl ⟨by rw [HZ.out, HEE.out]; rfl, (Below.refl _ _).alloc (Nat.le_refl _) _⟩
    · rw [if_neg hp] at hZ
      have hcond : (decide ((80 : Int) ≤ (x : Int)) = false) ∨ (decide ((80 : Int) ≤ (x : Int)) = true ∧ decide ((x : Int) ≤ 83) = false) := by
        by_cases h : 80 ≤ x
        · exact .inr ⟨decide_eq_true (by omega), decide_eq_false (by omega)⟩
        · exact .inl (decide_eq_false (by omega))
      have CA := fun w1 => arrows_any w1
      have LK := fun b w1 hb => arr_look b w1 hb x true
      simp only [if_true] at LK
      obtain ⟨nm, hnm⟩ : ∃ y, arrL x = y := ⟨_, rfl⟩
      rw [hnm] at LK hZ
      obtain ⟨nb, hnb⟩ : ∃ y, (⟨nm.toArray⟩ : ByteArray) = y := ⟨_, rfl⟩
      rw [hnb] at LK
      obtain ⟨ok, hok⟩ : ∃ y, decide (nm ≠ []) = y := ⟨_, rfl⟩
      rw [hok] at LK
      have HZ := hid hZ
      have HNB := hid hnb
      have HOK := hid hok
      have HX := hid hx
      have HLK := hid LK
      have HCA := hid CA
      clear hZ hgd hp hnm hnb hok LK CA
      go_enter Tryd.func35, Tryd.ntmps35
      rcases hcond with q | ⟨q, q'⟩
      all_goals
        go_upto_region 6 with fail
        go_cut [5, 6] from 26 to 33 (fun p c wx => ∃ g, p = .pointer (some ⟨g, 0, none⟩) ∧ c = .bool ok ∧ w.heap.size < g ∧ RowAt wx g nb ∧ Below w.heap.size w wx ∧ Box2 wx w.heap.size { data := #[] } 0)
        case first =>
          have hmx := mixed
          go_region_with (go_at_call 50; refine (HCA.out _).mono ?_; rintro e w' ⟨rfl, hm', hb'⟩; have hl2 := fun o => HLK.out _ (w'.alloc o) (by rw [Below.heap_alloc _ _ _ (lt_of_block hm')]; exact hm'); have hl1 := HLK.out _ w' hm'; simp [go_sem] at hl1 hl2; try (have hrow : w'.cell? ⟨w.heap.size + 1, 0, none⟩ = some (.string ⟨#[]⟩) := by rw [hb'.cell (by simp)]; simp [go_sem]); try (have hfr : w'.frozen? ⟨w.heap.size + 1, 0, none⟩ = false := by rw [hb'.frozen (by simp)]; simp [go_sem]))
          all_goals simp only [List.getElem_toArray, List.getElem_cons_succ, List.getElem_cons_zero]
          all_goals go_frame
          all_goals go_wp2
          all_goals go_meet
          all_goals
            have hsz := hb'.size
            simp [go_sem] at hsz
            have hX : Below (w.heap.size + 1) (w.alloc (.cells #[.string { data := #[] }, .int .u8 0] 31)) w' := by
              first
                | exact ((Below.refl _ _).drew).trans (hb'.mono (by simp [go_sem]))
                | exact (((Below.refl _ _).drew).alloc (by simp [go_sem]) _).trans (hb'.mono (by simp [go_sem]))
            have hb1 : Box2 (w.alloc (.cells #[.string { data := #[] }, .int .u8 0] 31)) w.heap.size { data := #[] } 0 := box_new w _ 0
            first
              | (have hY := hX.alloc (by omega) (.cells #[.string nb] 67)
                 exact ⟨_, rfl, rfl, by omega, ⟨by simp [go_sem], by simp [go_sem]⟩, hB1.trans (hY.mono (by omega)), hb1.below hY (by omega)⟩)
              | (have hY := hX.setCell (p := ⟨w.heap.size + 1, 0, none⟩) (Nat.le_refl _) (.string nb)
                 exact ⟨_, rfl, rfl, by omega, ⟨World.cell?_setCell_same' _ _ _ (by rw [hrow]; rfl), by rw [World.frozen?_setCell]; exact hfr⟩, hB1.trans (hY.mono (by omega)), hb1.below hY (by omega)⟩)
              | trace_state
        case rest =>
          obtain ⟨g, rfl, rfl, hg, ⟨c0, f0⟩, hB2, ⟨d0, d1, d2, d3⟩⟩ := hcut
          have hz := HZ.out
          have hok := HOK.out
          by_cases hn : nm = []
          · rw [if_pos hn] at hz
            rw [decide_eq_false (fun h => h hn)] at hok
            subst hok
            have HZ2 := hid hz
            clear hz
            go_wp2
            refine bodyPost_ret (v := .tuple #[.agg #[.string { data := #[] }, .int .u8 0], .int .i64 2]) (by simp [results, Tryd.results35, go_sem, *]) rfl ⟨by rw [← HZ2.out]; rfl, by (repeat first | with_reducible exact hB2 | refine Below.setCell ?_ (by first | exact Nat.le_refl _ | (simp; omega)) _ | refine Below.alloc ?_ (by simp; omega) _)⟩
          · rw [if_neg hn] at hz
            rw [decide_eq_true hn] at hok
            subst hok
            have HZ2 := hid hz
            clear hz
            go_wp2
            refine bodyPost_ret (v := .tuple #[.agg #[.string nb, .int .u8 0], .int .i64 3]) (by simp [results, Tryd.results35, go_sem, *]) rfl ⟨by rw [← HZ2.out, ← HNB.out]; rfl, by (repeat first | with_reducible exact hB2 | refine Below.setCell ?_ (by first | exact Nat.le_refl _ | (simp; omega)) _ | refine Below.alloc ?_ (by simp; omega) _)⟩
end Go.Proofs.YtddigbhijfpmkaaDoor
