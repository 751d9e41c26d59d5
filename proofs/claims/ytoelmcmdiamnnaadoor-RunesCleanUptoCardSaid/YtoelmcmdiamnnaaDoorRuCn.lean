/- Layer 3: clean texts, plain; the walk of RunesClean. -/
import Derived.Test.YtoelmcmdiamnnaaDoorRuAw
import Derived.Test.YtoelmcmdiamnnaaDoorRuDec
namespace Go.Proofs.YtoelmcmdiamnnaaDoor
set_option linter.unusedVariables false
set_option linter.unusedSimpArgs false
set_option maxRecDepth 100000
open Go.RowKit Go.Lib

/-- A rune that some text holds unbroken. -/
def Gd (r : Nat) : Prop := ∃ m : By, m ≠ [] ∧ ¬ Brk m ∧ rn m = r
theorem gd_bad : Gd 65533 := ⟨[239, 191, 189], by simp, by unfold Brk; decide, by decide⟩
theorem enc_gd {m : By} (hm : m ≠ []) (hb : ¬ Brk m) : Lib.encodeRune (rn m : Int) = m.take (wd m) := by
  refine (enc_dec m hm ?_).symm
  unfold brk
  refine decide_eq_false fun h => hb ?_
  unfold Brk
  exact Prod.ext h.1 h.2
theorem gd_dec {r : Nat} (h : Gd r) (t : By) : decodeL (Lib.encodeRune (r : Int) ++ t) = (r, (Lib.encodeRune (r : Int)).length) := by
  obtain ⟨m, hm, hb, rfl⟩ := h
  have hw := wd_le m hm
  rw [enc_gd hm hb, dec_pre hm hb, List.length_take, Nat.min_eq_left hw]
  rfl
theorem gd_ne {r : Nat} (h : Gd r) : Lib.encodeRune (r : Int) ≠ [] := by
  obtain ⟨m, hm, hb, rfl⟩ := h
  have hw := wd_le m hm
  have hp := wd_pos m
  rw [enc_gd hm hb]
  intro e
  have := congrArg List.length e
  rw [List.length_take, List.length_nil] at this
  omega
theorem gd_bytes {r : Nat} (h : Gd r) : (r < 128 ∧ Lib.encodeRune (r : Int) = [UInt8.ofNat r]) ∨ ∀ b ∈ Lib.encodeRune (r : Int), 128 ≤ b.toNat := by
  obtain ⟨m, hm, hb, rfl⟩ := h
  have hw := wd_le m hm
  have hlt := List.length_pos_iff.2 hm
  rw [enc_gd hm hb]
  by_cases h0 : (m.getD 0 0).toNat < 128
  · left
    have hd : decodeL m = ((m.getD 0 0).toNat, 1) := by rw [decodeL_eq]; exact dn1 h0
    have e1 : rn m = (m.getD 0 0).toNat := congrArg Prod.fst hd
    have e2 : wd m = 1 := congrArg Prod.snd hd
    refine ⟨by rw [e1]; exact h0, ?_⟩
    rw [e2, takeA m hlt, e1]
    simp
  · right
    intro b hbm
    obtain ⟨i, hi, rfl⟩ := List.mem_iff_getElem.1 hbm
    rw [List.length_take] at hi
    rw [List.getElem_take]
    have e : m[i]'(by omega) = m.getD i 0 := by rw [List.getD_eq_getElem?_getD, List.getElem?_eq_getElem (by omega)]; rfl
    rw [e]
    by_cases hi0 : i = 0
    · subst hi0
      omega
    · have := dec_cont hb (i := i) (by omega) (by omega)
      omega
theorem rs_gd : ∀ (n : Nat) (l : By), l.length ≤ n → ∀ p ∈ rs l, Gd p.2 ∧ (Lib.encodeRune (p.2 : Int)).length ≤ 3 * p.1
  | _, [], _, p, hp => by simp [rs_nil] at hp
  | 0, b :: t, h, _, _ => absurd h (by simp)
  | n + 1, b :: t, h, p, hp => by
    have hw := wd_pos (b :: t)
    have hwl := wd_le (b :: t) (by simp)
    rw [rs_cons _ (by simp)] at hp
    rcases List.mem_cons.1 hp with rfl | hp
    · by_cases hb : Brk (b :: t)
      · rw [brk_wd hb, brk_rn hb]
        exact ⟨gd_bad, by decide⟩
      · refine ⟨⟨b :: t, by simp, hb, rfl⟩, ?_⟩
        show (Lib.encodeRune (rn (b :: t) : Int)).length ≤ 3 * wd (b :: t)
        rw [enc_gd (by simp) hb, List.length_take]
        omega
    · exact rs_gd n _ (by rw [List.length_drop]; omega) p hp
/-- The runes of a clean text. -/
def clR : List (Nat × Nat) → List (Nat × Nat)
  | [] => []
  | (_, r) :: xs => if keepR (r : Int) then ((Lib.encodeRune (r : Int)).length, r) :: clR xs else clR xs
theorem rs_clean : ∀ (xs : List (Nat × Nat)), (∀ p ∈ xs, Gd p.2) → rs (cleanL xs) = clR xs
  | [], _ => rfl
  | (n, r) :: xs, h => by
    have ih := rs_clean xs (fun p hp => h p (by simp [hp]))
    have hr := h (n, r) (by simp)
    unfold cleanL clR
    split
    · have hd := gd_dec hr (cleanL xs)
      have hne : Lib.encodeRune (r : Int) ++ cleanL xs ≠ [] := by
        intro e
        exact gd_ne hr (List.append_eq_nil_iff.1 e).1
      rw [rs_cons _ hne]
      have e1 : rn (Lib.encodeRune (r : Int) ++ cleanL xs) = r := congrArg Prod.fst hd
      have e2 : wd (Lib.encodeRune (r : Int) ++ cleanL xs) = (Lib.encodeRune (r : Int)).length := congrArg Prod.snd hd
      rw [e1, e2, List.drop_left, ih]
    · rw [List.nil_append, ih]
theorem clean_clR : ∀ (xs : List (Nat × Nat)), cleanL (clR xs) = cleanL xs
  | [] => rfl
  | (n, r) :: xs => by
    unfold clR
    split
    · rename_i hk
      rw [show cleanL (((Lib.encodeRune (r : Int)).length, r) :: clR xs) = (if keepR (r : Int) then Lib.encodeRune (r : Int) else []) ++ cleanL (clR xs) from rfl, clean_clR xs]
      rfl
    · rename_i hk
      rw [clean_clR xs, show cleanL ((n, r) :: xs) = (if keepR (r : Int) then Lib.encodeRune (r : Int) else []) ++ cleanL xs from rfl, if_neg hk, List.nil_append]
theorem twL_clR : ∀ (xs : List (Nat × Nat)), twL (clR xs) = twL xs
  | [] => rfl
  | (n, r) :: xs => by
    unfold clR
    split
    · simp only [twL, List.map_cons, List.sum_cons]
      rw [show (List.map (fun p => wid (p.2 : Int)) (clR xs)).sum = twL (clR xs) from rfl, twL_clR xs]
      rfl
    · rename_i hk
      have hc : isCtl (r : Int) = true := by
        unfold keepR at hk
        simp only [Bool.or_eq_true, Bool.not_eq_true', not_or, Bool.not_eq_false] at hk
        exact hk.1
      rw [twL_clR xs]
      simp only [twL, List.map_cons, List.sum_cons, ctl_wid hc, Nat.zero_add]
def notBrk (p : Nat × Nat) : Bool := !(p.2 == 65533 && p.1 == 1)
theorem valid_rs : ∀ (n : Nat) (l : By), l.length ≤ n → Lib.validD l = (rs l).all notBrk
  | _, [], _ => rfl
  | 0, b :: t, h => absurd h (by simp)
  | n + 1, b :: t, h => by
    have hw := wd_pos (b :: t)
    have hwl := wd_le (b :: t) (by simp)
    rw [validD_step _ (by simp), rs_cons _ (by simp), List.all_cons, ← valid_rs n _ (by rw [List.length_drop]; omega)]
    split
    · rename_i hb
      have : notBrk (wd (b :: t), rn (b :: t)) = false := by
        unfold notBrk wd rn
        rw [hb.1, hb.2]
        rfl
      rw [this, Bool.false_and]
    · rename_i hb
      have : notBrk (wd (b :: t), rn (b :: t)) = true := by
        unfold notBrk
        simp only [Bool.not_eq_true', Bool.and_eq_false_iff, beq_eq_false_iff_ne]
        false_or_by_contra
        rename_i hc
        exact hb ⟨by false_or_by_contra; rename_i h1; exact hc (.inl h1), by false_or_by_contra; rename_i h1; exact hc (.inr h1)⟩
      rw [this, Bool.true_and]
      rfl
theorem clR_ok : ∀ (xs : List (Nat × Nat)), (∀ p ∈ xs, Gd p.2) → (clR xs).all notBrk = true
  | [], _ => rfl
  | (n, r) :: xs, h => by
    have ih := clR_ok xs (fun p hp => h p (by simp [hp]))
    unfold clR
    split
    · rw [List.all_cons, ih, Bool.and_true]
      unfold notBrk
      by_cases hr : r = 65533
      · subst hr
        have : (Lib.encodeRune ((65533 : Nat) : Int)).length = 3 := by decide
        rw [this]
        rfl
      · simp [hr]
    · exact ih
theorem brkAt_ok : ∀ (xs : List (Nat × Nat)) (o : Nat), (xs.all notBrk = true → brkAt o xs = -1) ∧ (xs.all notBrk = false → 0 ≤ brkAt o xs)
  | [], _ => ⟨fun _ => rfl, fun h => by simp at h⟩
  | (n, r) :: xs, o => by
    have ih := brkAt_ok xs (o + n)
    unfold brkAt
    rw [List.all_cons]
    by_cases hb : r = 65533 ∧ n = 1
    · rw [if_pos hb]
      have : notBrk (n, r) = false := by unfold notBrk; rw [hb.1, hb.2]; rfl
      rw [this]
      exact ⟨fun h => by simp at h, fun _ => by omega⟩
    · rw [if_neg hb]
      have : notBrk (n, r) = true := by
        unfold notBrk
        simp only [Bool.not_eq_true', Bool.and_eq_false_iff, beq_eq_false_iff_ne]
        false_or_by_contra
        rename_i hc
        exact hb ⟨by false_or_by_contra; rename_i h1; exact hc (.inl h1), by false_or_by_contra; rename_i h1; exact hc (.inr h1)⟩
      rw [this, Bool.true_and]
      exact ih
theorem clean_byte : ∀ (xs : List (Nat × Nat)), (∀ p ∈ xs, Gd p.2) → ∀ b ∈ cleanL xs, b = 10 ∨ (32 ≤ b.toNat ∧ b.toNat ≠ 127)
  | [], _, b, hb => by simp [cleanL] at hb
  | (n, r) :: xs, h, b, hb => by
    unfold cleanL at hb
    rcases List.mem_append.1 hb with hb | hb
    · split at hb
      · rename_i hk
        rcases gd_bytes (h (n, r) (by simp)) with ⟨h1, h2⟩ | h1
        · simp only at h1 h2 hk
          rw [h2] at hb
          have hbe : b = UInt8.ofNat r := by simpa using hb
          have hbn : b.toNat = r := by rw [hbe, UInt8.toNat_ofNat']; omega
          unfold keepR isCtl at hk
          simp only [Bool.or_eq_true, Bool.not_eq_true', Bool.or_eq_false_iff, Bool.and_eq_false_iff, decide_eq_false_iff_not, beq_iff_eq] at hk
          rcases hk with hk | hk
          · right
            omega
          · left
            apply UInt8.toNat_inj.1
            rw [hbn]
            show r = 10
            omega
        · right
          have := h1 b hb
          omega
      · simp at hb
    · exact clean_byte xs (fun p hp => h p (by simp [hp])) b hb
theorem clean_len : ∀ (xs : List (Nat × Nat)), (∀ p ∈ xs, (Lib.encodeRune (p.2 : Int)).length ≤ 3 * p.1) → (cleanL xs).length ≤ 3 * (xs.map (·.1)).sum
  | [], _ => Nat.le_refl _
  | (n, r) :: xs, h => by
    have ih := clean_len xs (fun p hp => h p (by simp [hp]))
    have h1 := h (n, r) (by simp)
    unfold cleanL
    rw [List.length_append]
    simp only [List.map_cons, List.sum_cons] at h1 ⊢
    split
    · omega
    · simp only [List.length_nil]
      omega
set_option maxRecDepth 100000
set_option maxHeartbeats 8000000
theorem walkRunesClean (w : World) (hT : TabsL w) (s : ByteArray) (hs : s.size ≤ 1048576) :
    Calls Tryd.prog 8 #[.string s] w fun e w' => e = .returned (.bool true) ∧ Below w.heap.size w w' := by
  have hl2 : s.data.toList.length = s.size := by simp
  have hgd := rs_gd _ s.data.toList (Nat.le_refl _)
  have hcl := clean_len (rs s.data.toList) (fun p hp => (hgd p hp).2)
  rw [rs_sum _ _ (Nat.le_refl _), hl2] at hcl
  have hby := clean_byte (rs s.data.toList) (fun p hp => (hgd p hp).1)
  have hrs := rs_clean (rs s.data.toList) (fun p hp => (hgd p hp).1)
  have hok := clR_ok (rs s.data.toList) (fun p hp => (hgd p hp).1)
  have hcd : (cleanE s).data.toList = cleanL (rs s.data.toList) := by simp [cleanE]
  have C0 := fun w => Clean_any s w (by omega)
  have hcz : (cleanE s).size ≤ 4000000 := by
    have : (cleanE s).size = (cleanE s).data.toList.length := by simp
    rw [this, hcd]
    omega
  have C1 := fun w => small (Cells_any s w (by omega)) (by omega)
  have C2 := fun w => small (Cells_any (cleanE s) w (by omega)) hcz
  have C3 := fun w hT => valid_any (cleanE s) w hT (by omega)
  have C4 := fun w => Clean_any (cleanE s) w hcz
  have C5 := fun w hT => At_any s w hT (by omega)
  have C6 := fun w hT => valid_any s w hT (by omega)
  have C7 := fun w hT => At_any (cleanE s) w hT hcz
  have e1 : total (pcs (cleanE s).data.toList) = total (pcs s.data.toList) := by
    rw [total_tw, total_tw, hcd]
    unfold tw
    rw [hrs, twL_clR]
  have e2 : Lib.validD (cleanE s).data.toList = true := by rw [valid_rs _ _ (Nat.le_refl _), hcd, hrs, hok]
  have e3 : cleanE (cleanE s) = cleanE s := by
    show ByteArray.mk (cleanL (rs (cleanE s).data.toList)).toArray = _
    rw [hcd, hrs, clean_clR]
    rfl
  have e4 : atE (cleanE s).data.toList = -1 := by
    unfold atE
    rw [hcd, hrs]
    exact (brkAt_ok _ 0).1 hok
  have e5 : (0 ≤ atE s.data.toList ∧ Lib.validD s.data.toList = false) ∨ (atE s.data.toList = -1 ∧ Lib.validD s.data.toList = true) := by
    rw [valid_rs _ _ (Nat.le_refl _)]
    cases hv : (rs s.data.toList).all notBrk with
    | true => exact .inr ⟨(brkAt_ok _ 0).1 hv, rfl⟩
    | false => exact .inl ⟨(brkAt_ok _ 0).2 hv, rfl⟩
  rw [e1] at C2
  rw [e2] at C3
  rw [e3] at C4
  rw [e4] at C7
  have HBY : Hid (∀ k (hk : k < (cleanE s).size), (cleanE s)[k]'hk = 10 ∨ (32 ≤ ((cleanE s)[k]'hk).toNat ∧ ((cleanE s)[k]'hk).toNat ≠ 127)) := hid (fun k hk => by
    have hm : (cleanE s)[k]'hk ∈ cleanL (rs s.data.toList) := by
      rw [← hcd]
      rw [ByteArray.getElem_eq_getElem_data]
      simp
    exact hby _ hm)
  generalize (pcs (cleanE s).data.toList).length = n2 at *
  generalize (pcs s.data.toList).length = n1 at *
  generalize total (pcs s.data.toList) = tt at *
  generalize cleanE s = c at *
  generalize atE s.data.toList = z at *
  generalize Lib.validD s.data.toList = v at *
  clear e1 e2 e3 e4 hcd hby hrs hok hgd hcl hl2
  have HE := hid e5
  clear e5
  go_enter Tryd.func8, Tryd.ntmps8
  go_wp2_with fail
  refine (awake_any w hT).mono ?_
  rintro e w1 ⟨rfl, hb1⟩
  have HB1 := hid hb1
  clear hb1
  go_wp2_with fail
  refine (C0 w1).mono ?_
  rintro e w2 ⟨rfl, hb2⟩
  have HB2 := hid (HB1.out.trans (hb2.mono HB1.out.size))
  clear hb2 HB1
  go_wp2
  go_loopg [5] c.size (fun gh v5 wr => ∃ k : Nat, v5 = .int .i64 k ∧ k ≤ c.size ∧ c.size - k ≤ gh ∧ Hid (Below w.heap.size w wr))
  case atStart => exact ⟨0, rfl, by omega, by omega, HB2⟩
  case round =>
    obtain ⟨k, rfl, hk, hgh, HX⟩ := hrel
    by_cases hlt : k < c.size
    · have hli : (k : Int) < (c.size : Int) := by omega
      have hb := HBY.out k hlt
      obtain ⟨x, hx⟩ : ∃ x, c[k]'hlt = x := ⟨_, rfl⟩
      rw [hx] at hb
      rcases hb with hb | ⟨hb1, hb2⟩
      · subst hb
        go_wp2
        go_roundg (c.size - (k + 1))
        case measure => omega
        case rel => exact ⟨k + 1, by go_num, by omega, by omega, HX⟩
      · have h1 : ¬ ((x.toNat : Int) < 32) := by omega
        have h2 : ¬ ((x.toNat : Int) = 127) := by omega
        have h3 : ((x.toNat : Int) == 127) = false := by simpa using h2
        go_wp2
        go_roundg (c.size - (k + 1))
        case measure => omega
        case rel => exact ⟨k + 1, by go_num, by omega, by omega, HX⟩
    · have hli : ¬ ((k : Int) < (c.size : Int)) := by omega
      go_wp2_with fail
      refine (C1 wr).mono ?_
      rintro e w3 ⟨rfl, hb3⟩
      have HB3 := hid (HX.out.trans (hb3.mono HX.out.size))
      clear hb3
      go_wp2_with fail
      refine (C2 w3).mono ?_
      rintro e w4 ⟨rfl, hb4⟩
      have HB4 := hid (HB3.out.trans (hb4.mono HB3.out.size))
      clear hb4 HB3
      have D5 := C3 w4 (tabsL_on hT HB4.out).1
      go_wp2_with fail
      refine D5.mono ?_
      rintro e w5 ⟨rfl, hb5⟩
      have HB5 := hid (HB4.out.trans (hb5.mono HB4.out.size))
      clear hb5 HB4 D5
      go_wp2_with fail
      refine (C4 w5).mono ?_
      rintro e w6 ⟨rfl, hb6⟩
      have HB6 := hid (HB5.out.trans (hb6.mono HB5.out.size))
      clear hb6 HB5
      have D7 := C5 w6 (tabsL_on hT HB6.out).1
      go_wp2_with fail
      refine D7.mono ?_
      rintro e w7 ⟨rfl, hb7⟩
      have HB7 := hid (HB6.out.trans (hb7.mono HB6.out.size))
      clear hb7 HB6 D7
      have D8 := C6 w7 (tabsL_on hT HB7.out).1
      rcases HE.out with ⟨hz, hv⟩ | ⟨hz, hv⟩
      · subst hv
        have hz' : ¬ (z < 0) := by omega
        go_wp2_with fail
        refine D8.mono ?_
        rintro e w8 ⟨rfl, hb8⟩
        have HB8 := hid (HB7.out.trans (hb8.mono HB7.out.size))
        clear hb8 HB7 D8
        have D9 := C7 w8 (tabsL_on hT HB8.out).1
        go_wp2_with fail
        refine D9.mono ?_
        rintro e w9 ⟨rfl, hb9⟩
        go_wp2
        go_ret
        refine ⟨?_, HB8.out.trans (hb9.mono HB8.out.size)⟩
        show Ending.returned (Value.bool (!decide (z < 0))) = _
        rw [decide_eq_false (show ¬ (z < 0) by omega)]
        rfl
      · subst hv
        subst hz
        go_wp2_with fail
        refine D8.mono ?_
        rintro e w8 ⟨rfl, hb8⟩
        have HB8 := hid (HB7.out.trans (hb8.mono HB7.out.size))
        clear hb8 HB7 D8
        have D9 := C7 w8 (tabsL_on hT HB8.out).1
        go_wp2_with fail
        refine D9.mono ?_
        rintro e w9 ⟨rfl, hb9⟩
        go_wp2
        go_ret
        exact ⟨rfl, HB8.out.trans (hb9.mono HB8.out.size)⟩
end Go.Proofs.YtoelmcmdiamnnaaDoor
