/- Layer 3: the walk of RunesLines. (Printed by gen_ll.py.) -/
import Derived.Test.YtoelmcmdiamnnaaDoorRuAw
import Derived.Test.YtoelmcmdiamnnaaDoorRuLq
import Derived.Shelf.Strings.Prefix
import Derived.Shelf.Small.Strs
namespace Go.Proofs.YtoelmcmdiamnnaaDoor
set_option linter.unusedVariables false
set_option linter.unusedSimpArgs false
set_option maxRecDepth 100000
open Go.RowKit Go.Lib Go.Shelf

def Tryd.laysPre_ren : Go.Shelf.Ren := ⟨fun | 99 => 29 | 206 => 55 | n => n, fun | 9 => 9 | 4 => 4 | 3 => 3 | n => n, fun | n => n⟩
theorem Tryd.laysPre : Go.Proofs.Lays.n99 Tryd.prog Tryd.laysPre_ren := {
  mixed := by kernel_rfl
  f99 := Tryd.func29.trans (congrArg some (by kernel_rfl))
  f206 := Tryd.func55.trans (congrArg some (by kernel_rfl))
  t3 := Tryd.underlying3
  a3 := Tryd.isAgg3
  z3 := Tryd.sizeOf3
  v3 := Tryd.zeroValue3
  t4 := Tryd.underlying4
  a4 := Tryd.isAgg4
  z4 := Tryd.sizeOf4
  v4 := Tryd.zeroValue4
  t9 := Tryd.underlying9
  a9 := Tryd.isAgg9
  z9 := Tryd.sizeOf9
  v9 := Tryd.zeroValue9 }
def Tryd.laysIB_ren : Go.Shelf.Ren := ⟨fun | 137 => 30 | 217 => 56 | 266 => 68 | n => n, fun | 9 => 9 | 5 => 5 | 3 => 3 | n => n, fun | n => n⟩
theorem Tryd.laysIB : Go.Proofs.Lays.n137 Tryd.prog Tryd.laysIB_ren := {
  mixed := by kernel_rfl
  f137 := Tryd.func30.trans (congrArg some (by kernel_rfl))
  f217 := Tryd.func56.trans (congrArg some (by kernel_rfl))
  f266 := Tryd.func68.trans (congrArg some (by kernel_rfl))
  t3 := Tryd.underlying3
  a3 := Tryd.isAgg3
  z3 := Tryd.sizeOf3
  v3 := Tryd.zeroValue3
  t5 := Tryd.underlying5
  a5 := Tryd.isAgg5
  z5 := Tryd.sizeOf5
  v5 := Tryd.zeroValue5
  t9 := Tryd.underlying9
  a9 := Tryd.isAgg9
  z9 := Tryd.sizeOf9
  v9 := Tryd.zeroValue9 }
theorem pre_yes (s : ByteArray) (a : Nat) (l : By) (ha : a + l.length ≤ s.size) (h : (s.data.toList.drop a).take l.length = l) (w : World) :
    Calls Tryd.prog 29 #[.string (s.extract a s.size), .string ⟨l.toArray⟩] w fun e w' => e = .returned (.bool true) ∧ w = w' := by
  refine (Any.strings_HasPrefix Tryd.laysPre (s.extract a s.size) ⟨l.toArray⟩ w).mono ?_
  rintro e w' ⟨rfl, hw⟩
  refine ⟨?_, hw.symm⟩
  have hl : s.data.toList.length = s.size := by simp
  rw [← Lib.hasPrefix_of_take, drop_bytes]
  show Ending.returned (Value.bool (decide (l.toArray.toList.length ≤ _) && _)) = _
  rw [show (ByteArray.mk l.toArray).data.toList = l by simp, h, decide_eq_true (by simp; omega)]
  simp
theorem ib_no (l : By) (h : ∀ b ∈ l, b ≠ 10) (w : World) :
    Calls Tryd.prog 30 #[.string ⟨l.toArray⟩, .int .u8 10] w fun e w' => e = .returned (.int .i64 (-1)) ∧ w = w' := by
  refine (Any.strings_IndexByte Tryd.laysIB ⟨l.toArray⟩ 10 w).mono ?_
  rintro e w' ⟨rfl, hw⟩
  refine ⟨?_, hw.symm⟩
  rw [show (ByteArray.mk l.toArray).data.toList = l by simp]
  rw [show (10 : Int).toNat.toUInt8 = 10 by decide, indexByte_no l h]
theorem twS_take (R : List By) {k : Nat} (hk : k < R.length) : twS (R.take (k + 1)) = twS (R.take k) + tw R[k] := by
  rw [List.take_succ_eq_append_getElem hk, twS_append]
  simp [twS]
theorem twS_mono (R : List By) (k : Nat) : twS (R.take k) ≤ twS R := by
  have : twS R = twS (R.take k) + twS (R.drop k) := by rw [← twS_append, List.take_append_drop]
  omega
theorem tw_le (l : By) : tw l ≤ 2 * l.length := by rw [← total_tw]; exact cells_le l
theorem tw_le_twS {R : List By} {l : By} (h : l ∈ R) : tw l ≤ twS R := by
  induction R with
  | nil => cases h
  | cons a t ih =>
    simp only [twS, List.map_cons, List.sum_cons]
    rcases List.mem_cons.1 h with rfl | h
    · omega
    · have := ih h
      unfold twS at this
      omega
theorem cut_size (s : ByteArray) (c : Int) (m : ByteArray) : (cutE s c m).1.size ≤ s.size + m.size := by
  have hf : ∀ d, (fits s d).size ≤ s.size := fun d => by unfold fits; rw [ByteArray.size_extract]; omega
  unfold cutE
  simp only
  split
  · simp
  · split
    · rw [ByteArray.size_append]
      have := hf (max c 0 - total (pcs m.data.toList))
      omega
    · have := hf (max c 0)
      simp only
      omega
set_option maxRecDepth 100000
set_option maxHeartbeats 16000000
theorem walkRunesLines (w : World) (hT : TabsL w) (s mark : ByteArray) (hs : s.size ≤ 1048576) (hm : mark.size ≤ 1048576) (c : Int) (hc1 : -9223372036854775808 ≤ c) (hc2 : c ≤ 9223372036854775807) :
    Calls Tryd.prog 7 #[.string s, .int .i64 c, .string mark] w fun e w' => e = .returned (.bool true) ∧ Below w.heap.size w w' := by
  have hl2 : s.data.toList.length = s.size := by simp
  have C1 := Lines_any s c
  have C2 := fun w => small (Cells_any s w (by omega)) (by omega)
  have C3 := fun w => small2 (Cut_any s mark c hc2 w (by omega) (by omega)) (by omega) (by omega)
  have hcs := cut_size s c mark
  have C4 := fun w => small (Cells_any (cutE s c mark).1 w (by omega)) (by omega)
  obtain ⟨k1, k2, k3⟩ := cut_ok s c mark
  rw [total_tw] at C2 C4
  have hst := pos_start c s.data.toList
  have hno := lines_no c s.data.toList
  have hfit := fun (h : 2 ≤ c) => widest_le (by omega) _ (lines_fit h s.data.toList)
  have hsum := twS_lines c s.data.toList
  have hlen := fun l (h : l ∈ linesE c s.data.toList) => line_len h
  have hG : ∀ k (hk : k < s.size) (h2 : k < s.data.toList.length), s.data.toList[k]'h2 = s[k]'hk := fun k hk h2 => by simp [ByteArray.getElem_eq_getElem_data]
  have htt := tw_le s.data.toList
  rw [hl2] at hlen htt
  generalize hRR : linesE c s.data.toList = R at *
  have hRn : R.length ≤ 1048577 := by
    have h1 := take_len c (spl s.data.toList) (spl s.data.toList).length
    rw [List.take_length, spl_sum, hl2] at h1
    rw [← hRR]
    exact Nat.le_trans h1 (by omega)
  clear hRR
  generalize (cutE s c mark).1 = z1 at *
  generalize (cutE s c mark).2 = z2 at *
  generalize (pcs z1.data.toList).length = n1 at *
  generalize (pcs s.data.toList).length = n2 at *
  generalize tw s.data.toList = all at *
  generalize tw z1.data.toList = m1 at *
  have hR0 : 0 < R.length := by
    obtain ⟨h, h1, _⟩ := hst
    cases R with
    | nil => simp at h1
    | cons a t => simp
  unfold LinP at C1
  obtain ⟨mw, hmw⟩ : ∃ mw, widest R = mw := ⟨_, rfl⟩
  obtain ⟨n, hn⟩ : ∃ n, R.length = n := ⟨_, rfl⟩
  have hmwall : mw ≤ all := by
    have := widest_le (m := (twS R : Int)) (by omega) R (fun l hl => by have := tw_le_twS hl; omega)
    omega
  rw [hmw] at C1 hfit
  rw [hn] at C1 hRn hR0
  have HST := hid hst
  have HNO := hid hno
  have HSUM := hid hsum
  have HLEN := hid hlen
  have HG := hid hG
  have HN := hid hn
  have HMW := hid hmw
  have HFIT := hid hfit
  have HK1 := hid k1
  have HK2 := hid k2
  have HK3 := hid k3
  clear hst hno hsum hlen hG hn hmw hfit k1 k2 k3
  go_enter Tryd.func7, Tryd.ntmps7
  go_wp2_with fail
  refine (awake_any w hT).mono ?_
  rintro e w1 ⟨rfl, hb1⟩
  have HB1 := hid hb1
  clear hb1
  have D1 := C1 w1 (tabsL_on hT HB1.out) (by omega)
  go_wp2_with fail
  refine D1.mono ?_
  rintro e w2 ⟨A, cc, rfl, hown, hb2⟩
  have HA := hid (At.of_own hown)
  have HB2 := hid (HB1.out.trans (hb2.mono HB1.out.size))
  have hs2 := HB2.out.size
  clear hown hb2 D1 C1
  go_wp2
  go_loopg [10, 11, 12, 13] n (fun gh v10 v11 v12 v13 wr => ∃ k a sm mx : Nat, v10 = .int .i64 a ∧ v11 = .int .i64 sm ∧ v12 = .int .i64 mx ∧ v13 = .int .i64 k ∧ k ≤ n ∧ n - k ≤ gh ∧ sm ≤ 4000000 ∧ mx ≤ 4000000 ∧ a ≤ s.size ∧ Hid ((k = 0 ∧ a = 0) ∨ (1 ≤ k ∧ ∃ p qs, Pos c s.data.toList R k a p qs)) ∧ Hid (sm = twS (R.take k)) ∧ Hid (mx = widest (R.take k)) ∧ Hid (Below w2.heap.size w2 wr))
  case atStart => exact ⟨0, 0, 0, 0, rfl, rfl, rfl, rfl, by omega, by omega, by omega, by omega, by omega, hid (.inl ⟨rfl, rfl⟩), hid rfl, hid rfl, hid (Below.refl _ _)⟩
  case round =>
    obtain ⟨k, a, sm, mx, rfl, rfl, rfl, rfl, hk, hgh, hsm, hmx, has, HP, HSM, HMX, HB⟩ := hrel
    have hsr := HB.out.size
    by_cases hlt : k < n
    · have hli : (k : Int) < (n : Int) := by omega
      have hkR : k < R.length := by rw [HN.out]; exact hlt
      obtain ⟨g, ob, rfl, hg, c0⟩ := (HA.out.below HB.out).st hkR
      have hnl := HNO.out _ (List.getElem_mem hkR)
      have hls := HLEN.out _ (List.getElem_mem hkR)
      have hst2 := twS_take R hkR
      have hwd2 := widest_take R hkR
      have hall := twS_mono R (k + 1)
      rw [HSUM.out] at hall
      rw [← HSM.out] at hst2
      rw [← HMX.out] at hwd2
      unfold cellsL at hwd2
      rw [total_tw] at hwd2
      have hgr : g < wr.heap.size := by omega
      have hstep : (k = 0 ∧ a = 0 ∧ (R[k]'hkR).length ≤ s.size ∧ (s.data.toList.drop 0).take (R[k]'hkR).length = R[k]'hkR ∧ ∃ p qs, Pos c s.data.toList R (k + 1) (R[k]'hkR).length p qs) ∨
          (1 ≤ k ∧ ∃ ha : a < s.size, s[a]'ha = 10 ∧ (a + 1) + (R[k]'hkR).length ≤ s.size ∧ (s.data.toList.drop (a + 1)).take (R[k]'hkR).length = R[k]'hkR ∧ ∃ p qs, Pos c s.data.toList R (k + 1) (a + 1 + (R[k]'hkR).length) p qs) ∨
          (1 ≤ k ∧ ∃ ha : a < s.size, s[a]'ha ≠ 10 ∧ a + (R[k]'hkR).length ≤ s.size ∧ (s.data.toList.drop a).take (R[k]'hkR).length = R[k]'hkR ∧ ∃ p qs, Pos c s.data.toList R (k + 1) (a + (R[k]'hkR).length) p qs) := by
        rcases HP.out with ⟨rfl, rfl⟩ | ⟨h1, p, qs, hpos⟩
        · left
          obtain ⟨h, e1, e2, e3, p, qs, hpos⟩ := HST.out
          have e4 : R[0]'hkR = h := by
            rw [List.getElem?_eq_getElem hkR] at e1
            exact Option.some.inj e1
          rw [e4]
          exact ⟨rfl, rfl, by rw [← hl2]; exact e3, by rw [List.drop_zero]; exact e2, p, qs, hpos⟩
        · right
          obtain ⟨a', h2, h3, h4, p', qs', h5⟩ := pos_step hpos hkR
          rcases h2 with ⟨ha, hx, rfl⟩ | ⟨ha, hx, rfl⟩
          · left
            have ha' : a < s.size := by omega
            exact ⟨h1, ha', by rw [← HG.out a ha' ha]; exact hx, by omega, h4, p', qs', h5⟩
          · right
            have ha' : a' < s.size := by omega
            exact ⟨h1, ha', by rw [← HG.out a' ha' ha]; exact hx, by omega, h4, p', qs', h5⟩
      obtain ⟨l, hl⟩ : ∃ l, R[k]'hkR = l := ⟨_, rfl⟩
      rw [hl] at c0 hnl hls hst2 hwd2 hstep
      have CB := ib_no l hnl
      have hsz : (ByteArray.mk l.toArray).size = l.length := mk_size l
      have CP := fun w => small (Cells_any ⟨l.toArray⟩ w (by omega)) (by omega)
      rw [total_tw] at CP
      have CPe : tw (ByteArray.mk l.toArray).data.toList = tw l := by simp
      rw [CPe] at CP
      generalize tw l = tl_ at *
      generalize (pcs (ByteArray.mk l.toArray).data.toList).length = pn at *
      have HST2 := hid hst2
      have HWD2 := hid hwd2
      have htl : sm + tl_ ≤ 4000000 := by omega
      clear hl hnl hst2 hwd2 HP hall CPe
      have hsz' : ((ByteArray.mk l.toArray).size : Int) = (l.length : Int) := by omega
      rcases hstep with ⟨rfl, rfl, hle, htk, hpos⟩ | ⟨h1k, ha, hx, hle, htk, hpos⟩ | ⟨h1k, ha, hx, hle, htk, hpos⟩
      · have hk0 : ¬ ((0 : Int) < ((0 : Nat) : Int)) := by omega
        rw [Nat.add_zero] at c0
        have CA := pre_yes s 0 l (by omega) htk
        have HPOS := hid hpos
        have CA0 := CA
        rw [ByteArray.extract_zero_size] at CA0
        clear htk hpos
        go_wp2
        refine region_ext mixed (by kernel_rfl) ?_
        (repeat (go_big_quiet_step (first | (go_at_call 29; with_reducible exact in_ext_same (CA0 _)) | (go_at_call 29; with_reducible exact in_ext_same (CA _)) | (go_at_call 30; with_reducible exact in_ext_same (CB _)))))
        refine wpQuiet_nil ?_
        intro w4 hb4
        have hg4 : g < w4.heap.size := by have := hb4.size; omega
        have c4 := ((bcell hb4).1 g ob hgr).trans c0
        have HB4 := hid (HB.out.trans (hb4.mono hsr))
        clear hb4 c0 CA CB HB
        go_wp2_with fail
        refine (CP w4).mono ?_
        rintro e w5 ⟨rfl, hb5⟩
        have HB5 := hid (HB4.out.trans (hb5.mono HB4.out.size))
        clear hb5 HB4 CP c4
        by_cases hmx2 : (mx : Int) ≤ (tl_ : Int)
        · have hw2 : widest (R.take (0 + 1)) = tl_ := by rw [HWD2.out]; exact Nat.max_eq_right (by omega)
          go_wp2
          go_roundg (n - (0 + 1))
          case measure => omega
          case rel => exact ⟨0 + 1, 0 + l.length, sm + tl_, tl_, by go_num, by go_num, by go_num, by go_num, by omega, by omega, by omega, by omega, by omega, hid (.inr ⟨by omega, by have hp_ := HPOS.out; rwa [← Nat.zero_add (List.length l)] at hp_⟩), hid HST2.out.symm, hid hw2.symm, HB5⟩
        · have hw2 : widest (R.take (0 + 1)) = mx := by rw [HWD2.out]; exact Nat.max_eq_left (by omega)
          go_wp2
          go_roundg (n - (0 + 1))
          case measure => omega
          case rel => exact ⟨0 + 1, 0 + l.length, sm + tl_, mx, by go_num, by go_num, by go_num, by go_num, by omega, by omega, by omega, by omega, by omega, hid (.inr ⟨by omega, by have hp_ := HPOS.out; rwa [← Nat.zero_add (List.length l)] at hp_⟩), hid HST2.out.symm, hid hw2.symm, HB5⟩
      · have hk0 : (0 : Int) < (k : Int) := by omega
        have hai : (a : Int) < (s.size : Int) := by omega
        have haj : ((a + 1 : Nat) : Int) ≤ (s.size : Int) := by omega
        have CA := pre_yes s (a + 1) l (by omega) htk
        have HPOS := hid hpos
        clear htk hpos
        go_wp2
        refine region_ext mixed (by kernel_rfl) ?_
        (repeat (go_big_quiet_step (first | (go_at_call 29; with_reducible exact in_ext_same (CA _)) | (go_at_call 30; with_reducible exact in_ext_same (CB _)))))
        refine wpQuiet_nil ?_
        intro w4 hb4
        have hg4 : g < w4.heap.size := by have := hb4.size; omega
        have c4 := ((bcell hb4).1 g (ob + k) hgr).trans c0
        have HB4 := hid (HB.out.trans (hb4.mono hsr))
        clear hb4 c0 CA CB HB
        go_wp2_with fail
        refine (CP w4).mono ?_
        rintro e w5 ⟨rfl, hb5⟩
        have HB5 := hid (HB4.out.trans (hb5.mono HB4.out.size))
        clear hb5 HB4 CP c4
        by_cases hmx2 : (mx : Int) ≤ (tl_ : Int)
        · have hw2 : widest (R.take (k + 1)) = tl_ := by rw [HWD2.out]; exact Nat.max_eq_right (by omega)
          go_wp2
          go_roundg (n - (k + 1))
          case measure => omega
          case rel => exact ⟨k + 1, (a + 1) + l.length, sm + tl_, tl_, by go_num, by go_num, by go_num, by go_num, by omega, by omega, by omega, by omega, by omega, hid (.inr ⟨by omega, HPOS.out⟩), hid HST2.out.symm, hid hw2.symm, HB5⟩
        · have hw2 : widest (R.take (k + 1)) = mx := by rw [HWD2.out]; exact Nat.max_eq_left (by omega)
          go_wp2
          go_roundg (n - (k + 1))
          case measure => omega
          case rel => exact ⟨k + 1, (a + 1) + l.length, sm + tl_, mx, by go_num, by go_num, by go_num, by go_num, by omega, by omega, by omega, by omega, by omega, hid (.inr ⟨by omega, HPOS.out⟩), hid HST2.out.symm, hid hw2.symm, HB5⟩
      · have hk0 : (0 : Int) < (k : Int) := by omega
        have hai : (a : Int) < (s.size : Int) := by omega
        obtain ⟨x, hxx⟩ : ∃ x, s[a]'ha = x := ⟨_, rfl⟩
        have h10 : ¬ (x.toNat : Int) = 10 := fun h => hx (by rw [hxx]; exact UInt8.toNat_inj.1 (by show x.toNat = 10; omega))
        have h10b : ((x.toNat : Int) == 10) = false := by simpa using h10
        clear hx
        have CA := pre_yes s a l (by omega) htk
        have HPOS := hid hpos
        clear htk hpos
        go_wp2
        refine region_ext mixed (by kernel_rfl) ?_
        (repeat (go_big_quiet_step (first | (go_at_call 29; with_reducible exact in_ext_same (CA _)) | (go_at_call 30; with_reducible exact in_ext_same (CB _)))))
        refine wpQuiet_nil ?_
        intro w4 hb4
        have hg4 : g < w4.heap.size := by have := hb4.size; omega
        have c4 := ((bcell hb4).1 g (ob + k) hgr).trans c0
        have HB4 := hid (HB.out.trans (hb4.mono hsr))
        clear hb4 c0 CA CB HB
        go_wp2_with fail
        refine (CP w4).mono ?_
        rintro e w5 ⟨rfl, hb5⟩
        have HB5 := hid (HB4.out.trans (hb5.mono HB4.out.size))
        clear hb5 HB4 CP c4
        by_cases hmx2 : (mx : Int) ≤ (tl_ : Int)
        · have hw2 : widest (R.take (k + 1)) = tl_ := by rw [HWD2.out]; exact Nat.max_eq_right (by omega)
          go_wp2
          go_roundg (n - (k + 1))
          case measure => omega
          case rel => exact ⟨k + 1, a + l.length, sm + tl_, tl_, by go_num, by go_num, by go_num, by go_num, by omega, by omega, by omega, by omega, by omega, hid (.inr ⟨by omega, HPOS.out⟩), hid HST2.out.symm, hid hw2.symm, HB5⟩
        · have hw2 : widest (R.take (k + 1)) = mx := by rw [HWD2.out]; exact Nat.max_eq_left (by omega)
          go_wp2
          go_roundg (n - (k + 1))
          case measure => omega
          case rel => exact ⟨k + 1, a + l.length, sm + tl_, mx, by go_num, by go_num, by go_num, by go_num, by omega, by omega, by omega, by omega, by omega, hid (.inr ⟨by omega, HPOS.out⟩), hid HST2.out.symm, hid hw2.symm, HB5⟩
    · have hli : ¬ ((k : Int) < (n : Int)) := by omega
      have hkn : k = n := by omega
      have ha : a = s.size := by
        rcases HP.out with ⟨h1, _⟩ | ⟨h1, p, qs, hpos⟩
        · omega
        · rw [pos_end hpos (by rw [HN.out]; omega), hl2]
      have hsmA : sm = all := by rw [HSM.out, hkn, ← HN.out, List.take_length, HSUM.out]
      have hmxW : mx = mw := by rw [HMX.out, hkn, ← HN.out, List.take_length, HMW.out]
      subst ha
      subst hsmA
      subst hmxW
      subst hkn
      clear HP HSM HMX HN HSUM HMW
      have hn1 : ¬ ((k : Int) < 1) := by omega
      have HBr := hid (HB2.out.trans (HB.out.mono hs2))
      clear HB HB2
      go_wp2_with fail
      refine (C2 wr).mono ?_
      rintro e w5 ⟨rfl, hb5⟩
      have HB5 := hid (HBr.out.trans (hb5.mono HBr.out.size))
      clear hb5 HBr C2
      have hcase : (2 ≤ c ∧ ¬ (c < (mx : Int)) ∧ ¬ (c ≤ 0) ∧ max c 0 = c) ∨ (c = 1 ∧ max c 0 = 1) ∨ (c ≤ 0 ∧ ¬ (2 ≤ c) ∧ max c 0 = 0) := by
        by_cases h2 : 2 ≤ c
        · have := HFIT.out h2
          exact .inl ⟨h2, by omega, by omega, by omega⟩
        · by_cases h0 : c ≤ 0
          · exact .inr (.inr ⟨h0, h2, by omega⟩)
          · exact .inr (.inl ⟨by omega, by omega⟩)
      have hk1 := HK1.out
      have hk2 := HK2.out
      have hk3 := HK3.out
      clear HFIT HK1 HK2 HK3
      rcases hcase with ⟨hA, hB, hC, hD⟩ | ⟨hA, hD⟩ | ⟨hA, hB, hD⟩
      · rw [hD] at hk1 hk2
        have HD := hid hD
        clear hD
        by_cases hcut : c < (sm : Int)
        · rw [decide_eq_true hcut] at hk2
          subst hk2
          clear hk3
          go_wp2_with fail
          refine (C3 w5).mono ?_
          rintro e w6 ⟨rfl, hb6⟩
          have HB6 := hid (HB5.out.trans (hb6.mono HB5.out.size))
          clear hb6
          go_wp2_with fail
          refine (C4 w6).mono ?_
          rintro e w7 ⟨rfl, hb7⟩
          have HB7 := hid (HB6.out.trans (hb7.mono HB6.out.size))
          clear hb7 HB6
          go_wp2
          go_ret
          exact ⟨rfl, HB7.out⟩
        · rw [decide_eq_false hcut] at hk2
          subst hk2
          have hz1 : z1 = s := by simpa using hk3
          subst hz1
          clear hk3
          go_wp2_with fail
          refine (C3 w5).mono ?_
          rintro e w6 ⟨rfl, hb6⟩
          have HB6 := hid (HB5.out.trans (hb6.mono HB5.out.size))
          clear hb6
          go_wp2_with fail
          refine (C4 w6).mono ?_
          rintro e w7 ⟨rfl, hb7⟩
          have HB7 := hid (HB6.out.trans (hb7.mono HB6.out.size))
          clear hb7 HB6
          go_wp2
          go_ret
          refine ⟨?_, HB7.out⟩
          show Ending.returned (Value.bool (!decide (max c 0 < (sm : Int)))) = _
          rw [HD.out, decide_eq_false (show ¬ (c < (sm : Int)) by omega)]
          rfl
      · rw [hD] at hk1 hk2
        subst hA
        have HD := hid hD
        clear hD
        by_cases hcut : 1 < (sm : Int)
        · rw [decide_eq_true hcut] at hk2
          subst hk2
          clear hk3
          go_wp2_with fail
          refine (C3 w5).mono ?_
          rintro e w6 ⟨rfl, hb6⟩
          have HB6 := hid (HB5.out.trans (hb6.mono HB5.out.size))
          clear hb6
          go_wp2_with fail
          refine (C4 w6).mono ?_
          rintro e w7 ⟨rfl, hb7⟩
          have HB7 := hid (HB6.out.trans (hb7.mono HB6.out.size))
          clear hb7 HB6
          go_wp2
          go_ret
          exact ⟨rfl, HB7.out⟩
        · rw [decide_eq_false hcut] at hk2
          subst hk2
          have hz1 : z1 = s := by simpa using hk3
          subst hz1
          clear hk3
          go_wp2_with fail
          refine (C3 w5).mono ?_
          rintro e w6 ⟨rfl, hb6⟩
          have HB6 := hid (HB5.out.trans (hb6.mono HB5.out.size))
          clear hb6
          go_wp2_with fail
          refine (C4 w6).mono ?_
          rintro e w7 ⟨rfl, hb7⟩
          have HB7 := hid (HB6.out.trans (hb7.mono HB6.out.size))
          clear hb7 HB6
          go_wp2
          go_ret
          refine ⟨?_, HB7.out⟩
          show Ending.returned (Value.bool (!decide (max 1 0 < (sm : Int)))) = _
          rw [HD.out, decide_eq_false (show ¬ (1 < (sm : Int)) by omega)]
          rfl
      · rw [hD] at hk1 hk2
        have HD := hid hD
        clear hD
        by_cases hcut : 0 < (sm : Int)
        · rw [decide_eq_true hcut] at hk2
          subst hk2
          clear hk3
          go_wp2_with fail
          refine (C3 w5).mono ?_
          rintro e w6 ⟨rfl, hb6⟩
          have HB6 := hid (HB5.out.trans (hb6.mono HB5.out.size))
          clear hb6
          go_wp2_with fail
          refine (C4 w6).mono ?_
          rintro e w7 ⟨rfl, hb7⟩
          have HB7 := hid (HB6.out.trans (hb7.mono HB6.out.size))
          clear hb7 HB6
          go_wp2
          go_ret
          exact ⟨rfl, HB7.out⟩
        · rw [decide_eq_false hcut] at hk2
          subst hk2
          have hz1 : z1 = s := by simpa using hk3
          subst hz1
          clear hk3
          go_wp2_with fail
          refine (C3 w5).mono ?_
          rintro e w6 ⟨rfl, hb6⟩
          have HB6 := hid (HB5.out.trans (hb6.mono HB5.out.size))
          clear hb6
          go_wp2_with fail
          refine (C4 w6).mono ?_
          rintro e w7 ⟨rfl, hb7⟩
          have HB7 := hid (HB6.out.trans (hb7.mono HB6.out.size))
          clear hb7 HB6
          go_wp2
          go_ret
          refine ⟨?_, HB7.out⟩
          show Ending.returned (Value.bool (!decide (max c 0 < (sm : Int)))) = _
          rw [HD.out, decide_eq_false (show ¬ (0 < (sm : Int)) by omega)]
          rfl
end Go.Proofs.YtoelmcmdiamnnaaDoor
