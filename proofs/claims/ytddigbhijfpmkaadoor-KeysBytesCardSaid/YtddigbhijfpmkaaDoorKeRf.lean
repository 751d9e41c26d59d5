/- Layer 21: thing and Bytes of the reference. -/
import Derived.Test.YtddigbhijfpmkaaDoorKeRe
namespace Go.Proofs.YtddigbhijfpmkaaDoor
set_option linter.unusedVariables false
set_option linter.unusedSimpArgs false
set_option maxRecDepth 100000
open Go.RowKit Go.Shelf Go.Lib
set_option maxRecDepth 100000
set_option maxHeartbeats 8000000

theorem rthing_any (s : ByteArray) (w : World) (hT : Tabs w) (h0 : 0 < s.size) (hs : s.size ≤ 4000000) : Calls Tryd.prog 23 #[.string s] w fun e w' => e = .returned (pV (thingL s.data.toList)) ∧ Below w.heap.size w w' := by
  obtain ⟨Z, hZ⟩ : ∃ x, thingL s.data.toList = x := ⟨_, rfl⟩
  rw [hZ]
  unfold thingL at hZ
  have hB1 := (Below.refl w.heap.size w).alloc (Nat.le_refl _) (.cells #[.string { data := #[] }, .int .u8 0] 31)
  have bx1 : Box2 (w.alloc (.cells #[.string { data := #[] }, .int .u8 0] 31)) w.heap.size { data := #[] } 0 := box_new w _ 0
  have hg0 : s.data.toList.getD 0 0 = s[0] := by
    rw [List.getD_eq_getElem?_getD, List.getElem?_eq_getElem (by rw [ba_len]; exact h0)]
    rfl
  rw [hg0, ba_len] at hZ
  obtain ⟨x, hx⟩ : ∃ x, s[0].toNat = x := ⟨_, rfl⟩
  rw [hx] at hZ
  clear hg0
  by_cases hx27 : x = 27
  · rw [if_neg (fun h => h hx27)] at hZ
    subst hx27
    by_cases hl1 : s.size = 1
    · rw [if_pos hl1] at hZ
      have HZ := hid hZ
      have e1 : ((s.size : Int) == 1) = true := beq_iff_eq.2 (by omega)
      clear hZ
      go_enter Tryd.func23, Tryd.ntmps23
      go_wp2
      refine bodyPost_ret (v := .tuple #[.agg #[.string { data := #[] }, .int .u8 0], .int .i64 0]) (by simp [results, Tryd.results23, go_sem, *]) rfl ⟨by rw [← HZ.out]; rfl, by (repeat first | with_reducible exact hB1 | refine Below.setCell ?_ (by first | exact Nat.le_refl _ | (simp; omega)) _ | refine Below.alloc ?_ (by simp; omega) _)⟩
    rw [if_neg hl1] at hZ
    have e1 : ((s.size : Int) == 1) = false := beq_eq_false_iff_ne.2 (by omega)
    have l2 : 1 < s.size := by omega
    have hg1 : s.data.toList.getD 1 0 = s[1] := by
      rw [List.getD_eq_getElem?_getD, List.getElem?_eq_getElem (by rw [ba_len]; exact l2)]
      rfl
    rw [hg1] at hZ
    obtain ⟨y, hy⟩ : ∃ x, s[1].toNat = x := ⟨_, rfl⟩
    rw [hy] at hZ
    clear hg1
    by_cases h91 : y = 91
    · rw [if_pos h91] at hZ
      subst h91
      have C := rbracket_any s (w.alloc (.cells #[.string { data := #[] }, .int .u8 0] 31)) (by omega) hs
      obtain ⟨⟨⟨nm, md⟩, n⟩, hp⟩ : ∃ y, bracketL s.data.toList = y := ⟨_, rfl⟩
      rw [hp] at C hZ
      rw [pV_at] at C
      have HZ := hid hZ
      clear hZ hp
      go_enter Tryd.func23, Tryd.ntmps23
      go_wp2_with fail
      with_reducible refine C.mono ?_
      rintro e w2 ⟨rfl, hb2⟩
      obtain ⟨c0, c1, c2, c3⟩ := bx1.below hb2 (by simp)
      have hs2 := hb2.size
      simp only [World.size_alloc] at hs2
      have k1 : w.heap.size < w2.heap.size := by omega
      have hB2 := hB1.trans (hb2.mono hB1.size)
      clear C bx1 hb2 hB1
      go_wp2
      refine bodyPost_ret (v := .tuple #[.agg #[.string ⟨nm.toArray⟩, .int .u8 (md : Int)], .int .i64 (n : Int)]) (by simp [results, Tryd.results23, go_sem, *]) rfl ⟨by rw [← HZ.out]; rfl, by (repeat first | with_reducible exact hB2 | refine Below.setCell ?_ (by first | exact Nat.le_refl _ | (simp; omega)) _ | refine Below.alloc ?_ (by simp; omega) _)⟩
    rw [if_neg h91] at hZ
    have e91 : ((y : Int) == 91) = false := beq_eq_false_iff_ne.2 (by omega)
    by_cases h79 : y = 79
    · rw [if_pos h79] at hZ
      subst h79
      have C := rletter_any s (w.alloc (.cells #[.string { data := #[] }, .int .u8 0] 31)) (by omega) hs
      obtain ⟨⟨⟨nm, md⟩, n⟩, hp⟩ : ∃ y, letterL s.data.toList = y := ⟨_, rfl⟩
      rw [hp] at C hZ
      rw [pV_at] at C
      have HZ := hid hZ
      clear hZ hp
      go_enter Tryd.func23, Tryd.ntmps23
      go_wp2_with fail
      with_reducible refine C.mono ?_
      rintro e w2 ⟨rfl, hb2⟩
      obtain ⟨c0, c1, c2, c3⟩ := bx1.below hb2 (by simp)
      have hs2 := hb2.size
      simp only [World.size_alloc] at hs2
      have k1 : w.heap.size < w2.heap.size := by omega
      have hB2 := hB1.trans (hb2.mono hB1.size)
      clear C bx1 hb2 hB1
      go_wp2
      refine bodyPost_ret (v := .tuple #[.agg #[.string ⟨nm.toArray⟩, .int .u8 (md : Int)], .int .i64 (n : Int)]) (by simp [results, Tryd.results23, go_sem, *]) rfl ⟨by rw [← HZ.out]; rfl, by (repeat first | with_reducible exact hB2 | refine Below.setCell ?_ (by first | exact Nat.le_refl _ | (simp; omega)) _ | refine Below.alloc ?_ (by simp; omega) _)⟩
    rw [if_neg h79] at hZ
    have e79 : ((y : Int) == 79) = false := beq_eq_false_iff_ne.2 (by omega)
    by_cases h27 : y = 27
    · rw [if_pos h27] at hZ
      subst h27
      have HZ := hid hZ
      clear hZ e79 e91
      go_enter Tryd.func23, Tryd.ntmps23
      go_wp2
      refine bodyPost_ret (v := .tuple #[.agg #[.string ⟨#[101, 115, 99, 97, 112, 101]⟩, .int .u8 0], .int .i64 1]) (by simp [results, Tryd.results23, go_sem, *]) rfl ⟨by rw [← HZ.out]; rfl, (Below.refl _ _).alloc (Nat.le_refl _) _⟩
    rw [if_neg h27] at hZ
    have e27 : ((y : Int) == 27) = false := beq_eq_false_iff_ne.2 (by omega)
    have C := rplain_any (s.extract 1 s.size) _ (tabs_on hT hB1) (by rw [ByteArray.size_extract]; omega) (by rw [ByteArray.size_extract]; omega)
    have hpd : (s.extract 1 s.size).data.toList = s.data.toList.drop 1 := by rw [ba_drop]
    rw [hpd] at C
    have hmd := plain_md (s.data.toList.drop 1)
    have hle := plain_le (l := s.data.toList.drop 1) (fun h => by have := congrArg List.length h; rw [List.length_drop, ba_len, List.length_nil] at this; omega)
    rw [List.length_drop, ba_len] at hle
    obtain ⟨⟨⟨nm, md⟩, n⟩, hp⟩ : ∃ y, plainL (s.data.toList.drop 1) = y := ⟨_, rfl⟩
    rw [hp] at C hZ hmd hle
    rw [pV_at] at C
    simp only at hZ hmd hle
    have he := toList_nil nm
    obtain ⟨nb, hnb⟩ : ∃ x, (⟨nm.toArray⟩ : ByteArray) = x := ⟨_, rfl⟩
    rw [hnb] at C he
    have HNB := hid hnb
    have hor : bits .or .u8 (md : Int) 4 = ((md ||| 4 : Nat) : Int) := or_small ⟨md, hmd⟩ ⟨4, by decide⟩
    clear hnb hp hpd
    by_cases hn : n = 0
    · rw [if_pos hn] at hZ
      have n0 : ((n : Int) == 0) = true := beq_iff_eq.2 (by omega)
      have HZ := hid hZ
      clear hZ
      go_enter Tryd.func23, Tryd.ntmps23
      go_wp2_with fail
      with_reducible refine C.mono ?_
      rintro e w2 ⟨rfl, hb2⟩
      obtain ⟨c0, c1, c2, c3⟩ := bx1.below hb2 (by simp)
      have hs2 := hb2.size
      simp only [World.size_alloc] at hs2
      have k1 : w.heap.size < w2.heap.size := by omega
      have hB2 := hB1.trans (hb2.mono hB1.size)
      clear C bx1 hb2 hB1
      go_wp2
      refine bodyPost_ret (v := .tuple #[.agg #[.string { data := #[] }, .int .u8 0], .int .i64 0]) (by simp [results, Tryd.results23, go_sem, *]) rfl ⟨by rw [← HZ.out]; rfl, by (repeat first | with_reducible exact hB2 | refine Below.setCell ?_ (by first | exact Nat.le_refl _ | (simp; omega)) _ | refine Below.alloc ?_ (by simp; omega) _)⟩
    rw [if_neg hn] at hZ
    have n0 : ((n : Int) == 0) = false := beq_eq_false_iff_ne.2 (by omega)
    have hnle : n ≤ 4000000 := by omega
    by_cases hnm : nm = []
    · rw [if_pos hnm] at hZ
      have he2 : (nb.toList == []) = true := by rw [he]; exact decide_eq_true hnm
      have HZ := hid hZ
      clear hZ he
      go_enter Tryd.func23, Tryd.ntmps23
      go_wp2_with fail
      with_reducible refine C.mono ?_
      rintro e w2 ⟨rfl, hb2⟩
      obtain ⟨c0, c1, c2, c3⟩ := bx1.below hb2 (by simp)
      have hs2 := hb2.size
      simp only [World.size_alloc] at hs2
      have k1 : w.heap.size < w2.heap.size := by omega
      have hB2 := hB1.trans (hb2.mono hB1.size)
      clear C bx1 hb2 hB1
      go_wp2
      refine bodyPost_ret (v := .tuple #[.agg #[.string nb, .int .u8 (md : Int)], .int .i64 ((n : Int) + 1)]) (by simp [results, Tryd.results23, go_sem, *]) rfl ⟨by rw [← HZ.out, ← HNB.out]; rfl, by (repeat first | with_reducible exact hB2 | refine Below.setCell ?_ (by first | exact Nat.le_refl _ | (simp; omega)) _ | refine Below.alloc ?_ (by simp; omega) _)⟩
    · rw [if_neg hnm] at hZ
      have he2 : (nb.toList == []) = false := by rw [he]; exact decide_eq_false hnm
      have HZ := hid hZ
      clear hZ he
      go_enter Tryd.func23, Tryd.ntmps23
      go_wp2_with fail
      with_reducible refine C.mono ?_
      rintro e w2 ⟨rfl, hb2⟩
      obtain ⟨c0, c1, c2, c3⟩ := bx1.below hb2 (by simp)
      have hs2 := hb2.size
      simp only [World.size_alloc] at hs2
      have k1 : w.heap.size < w2.heap.size := by omega
      have hB2 := hB1.trans (hb2.mono hB1.size)
      clear C bx1 hb2 hB1
      go_wp2
      refine bodyPost_ret (v := .tuple #[.agg #[.string nb, .int .u8 ((md ||| 4 : Nat) : Int)], .int .i64 ((n : Int) + 1)]) (by simp [results, Tryd.results23, go_sem, *]) rfl ⟨by rw [← HZ.out, ← HNB.out]; rfl, by (repeat first | with_reducible exact hB2 | refine Below.setCell ?_ (by first | exact Nat.le_refl _ | (simp; omega)) _ | refine Below.alloc ?_ (by simp; omega) _)⟩
  · rw [if_pos hx27] at hZ
    have ex : ((x : Int) == 27) = false := beq_eq_false_iff_ne.2 (by omega)
    have C := rplain_any s _ (tabs_on hT hB1) h0 hs
    obtain ⟨⟨⟨nm, md⟩, n⟩, hp⟩ : ∃ y, plainL s.data.toList = y := ⟨_, rfl⟩
    rw [hp] at C hZ
    rw [pV_at] at C
    have HZ := hid hZ
    clear hZ hp
    go_enter Tryd.func23, Tryd.ntmps23
    go_wp2_with fail
    with_reducible refine C.mono ?_
    rintro e w2 ⟨rfl, hb2⟩
    obtain ⟨c0, c1, c2, c3⟩ := bx1.below hb2 (by simp)
    have hs2 := hb2.size
    simp only [World.size_alloc] at hs2
    have k1 : w.heap.size < w2.heap.size := by omega
    have hB2 := hB1.trans (hb2.mono hB1.size)
    clear C bx1 hb2 hB1
    go_wp2
    refine bodyPost_ret (v := .tuple #[.agg #[.string ⟨nm.toArray⟩, .int .u8 (md : Int)], .int .i64 (n : Int)]) (by simp [results, Tryd.results23, go_sem, *]) rfl ⟨by rw [← HZ.out]; rfl, by (repeat first | with_reducible exact hB2 | refine Below.setCell ?_ (by first | exact Nat.le_refl _ | (simp; omega)) _ | refine Below.alloc ?_ (by simp; omega) _)⟩

theorem rBytes_any (s : ByteArray) (w : World) (hT : Tabs w) : Calls Tryd.prog 11 #[.string s] w (ChordP w (BytesL s.data.toList)) := by
  unfold BytesL
  rw [ba_len]
  by_cases h : 65536 < s.size
  · have h1 : (65536 : Int) < (s.size : Int) := by omega
    rw [if_pos h]
    go_enter Tryd.func11, Tryd.ntmps11
    go_wp2
    exact bodyPost_ret (by simp [results, Tryd.results11, go_sem, *]) rfl ⟨none, 0, rfl, World.ownsRow_nil _ _ _ _, Below.refl _ _⟩
  · have h1 : ¬ ((65536 : Int) < (s.size : Int)) := by omega
    rw [if_neg h]
    obtain ⟨Z, hZ⟩ : ∃ Z, ((bytesL s.data.toList).1, (bytesL s.data.toList).2, 0) = Z := ⟨_, rfl⟩
    rw [hZ]
    have hsz : s.size ≤ 65536 := by omega
    have HZ0 := hid hZ
    clear hZ h
    go_enter Tryd.func11, Tryd.ntmps11
    go_wp2
    go_loopg [0, 5] s.size (fun gh v0 v5 wr => ∃ (r : ByteArray) (A : Option Addr) (c : Nat) (acc : List Ky), v0 = .string r ∧ v5 = .slice A acc.length c ∧ wr.ownsRow w.heap.size 31 2 (.slice A acc.length c) acc.length (kys acc) ∧ acc.length + r.size ≤ 65536 ∧ r.size ≤ gh ∧
      Hid ((acc ++ (bytesL r.data.toList).1, (bytesL r.data.toList).2, 0) = Z) ∧ Below w.heap.size w wr)
    case atStart => exact ⟨s, none, 0, [], rfl, rfl, World.ownsRow_nil _ _ _ _, by simpa using hsz, Nat.le_refl _, hid HZ0.out, Below.refl _ _⟩
    case round =>
      obtain ⟨r, A, c, acc, rfl, rfl, hown, hacc, hgh, HZ, hbr⟩ := hrel
      have hsr := hbr.size
      by_cases hr : r.size = 0
      · have hn0 : r.data.toList = [] := List.eq_nil_of_length_eq_zero (by rw [ba_len]; exact hr)
        have c1 : (r.toList == []) = true := by rw [ByteArray.toList_eq, hn0]; rfl
        have hz := HZ.out
        clear hn0
        rw [List.eq_nil_of_length_eq_zero (show r.data.toList.length = 0 by rw [ba_len]; exact hr), bytesL_nil, List.append_nil] at hz
        subst hz
        go_wp2
        exact bodyPost_ret (by simp [results, Tryd.results11, go_sem, *]) rfl ⟨A, c, rfl, hown, hbr⟩
      · have hne : r.data.toList ≠ [] := fun e => by have := ba_len r; rw [e, List.length_nil] at this; omega
        have c1 : (r.toList == []) = false := by rw [ByteArray.toList_eq]; exact beq_eq_false_iff_ne.2 hne
        have CT := rthing_any r wr (tabs_on hT hbr) (by omega) (by omega)
        have hle := thing_le hne
        have hwait := bytesL_wait hne
        have hstep := bytesL_step hne
        rw [ba_len] at hle hwait
        obtain ⟨⟨⟨nm, md⟩, n⟩, hp⟩ : ∃ y, thingL r.data.toList = y := ⟨_, rfl⟩
        rw [hp] at CT hle hwait hstep
        rw [pV_at] at CT
        simp only at hle hwait hstep
        have he := toList_nil nm
        obtain ⟨nb, hnb⟩ : ∃ x, (⟨nm.toArray⟩ : ByteArray) = x := ⟨_, rfl⟩
        rw [hnb] at CT he
        have HNB := hid hnb
        have hxl : (r.extract n r.size).size = r.size - n := by rw [ByteArray.size_extract]; omega
        have hxd := ba_drop r n
        have hdl : ((⟨(r.data.toList.drop n).toArray⟩ : ByteArray)).data.toList = r.data.toList.drop n := rfl
        clear hnb hp hne
        by_cases hn : n = 0
        · have hz := HZ.out
          rw [hwait hn, List.append_nil] at hz
          subst hz
          have n0 : ((n : Int) == 0) = true := beq_iff_eq.2 (by omega)
          clear hwait hstep hxl hxd hdl he
          go_wp2_with fail
          with_reducible refine CT.mono ?_
          rintro e w2 ⟨rfl, hb2⟩
          have hown2 := own_below' hown hb2
          have hB2 := hbr.trans (hb2.mono hbr.size)
          have hs2 := hB2.size
          clear hb2 CT hown hbr
          go_wp2
          exact bodyPost_ret (by simp [results, Tryd.results11, go_sem, *]) rfl ⟨A, c, rfl, hown2.alloc _, hB2.alloc hs2 _⟩
        · have n0 : ((n : Int) == 0) = false := beq_eq_false_iff_ne.2 (by omega)
          have hz := HZ.out
          rw [hstep hn] at hz
          have hni : (n : Int) ≤ (r.size : Int) := by omega
          have HXD := hid hxd
          have HHN := hid hn
          have hxl2 : acc.length + 1 + (r.extract n r.size).size ≤ 65536 ∧ (r.extract n r.size).size < r.size := by rw [hxl]; omega
          have HXL := hid hxl2
          clear hwait hstep hxl hxd hdl hn hxl2
          by_cases hnm : nm = []
          · simp only [if_pos hnm] at hz
            have he2 : (nb.toList == []) = true := by rw [he]; exact decide_eq_true hnm
            have HZ2 := hid hz
            clear hz he
            go_wp2_with fail
            with_reducible refine CT.mono ?_
            rintro e w2 ⟨rfl, hb2⟩
            have hown2 := own_below' hown hb2
            have hB2 := hbr.trans (hb2.mono hbr.size)
            have hs2 := hB2.size
            clear hb2 CT hown hbr
            go_wp2
            go_roundg (r.extract n r.size).size
            case measure => have := HXL.out; omega
            case rel =>
              have := HXL.out
              exact ⟨r.extract n r.size, A, c, acc, rfl, rfl, hown2.alloc _, by omega, Nat.le_refl _, hid (by rw [HXD.out]; exact HZ2.out), hB2.alloc hs2 _⟩
          · simp only [if_neg hnm] at hz
            have he2 : (nb.toList == []) = false := by rw [he]; exact decide_eq_false hnm
            have HZ2 := hid hz
            clear hz he
            have hacc2 : acc.length ≤ 1000000 := by omega
            go_wp2_with fail
            with_reducible refine CT.mono ?_
            rintro e w2 ⟨rfl, hb2⟩
            have hown2 := own_below' hown hb2
            have hB2 := hbr.trans (hb2.mono hbr.size)
            have hs2 := hB2.size
            clear hb2 CT hown hbr
            go_wp2_with (first | (at_builtin; refine append_key rfl (.tmp 23) (.tmp 25) rfl w.heap.size _ acc nb md (w2.heap.size + 1) rfl rfl ((hown2.alloc _).alloc _) (by simp [go_sem]) (by simp [go_sem]) ?_ ?_ ?_))
            · omega
            · simp; omega
            intro v3 w3 hown3 hg3 _
            obtain ⟨A3, c3, rfl⟩ := own_shape hown3
            have hb3 : Below w.heap.size w w3 := ((hB2.alloc hs2 _).alloc (by simp; omega) _).grown hg3 (by simp; omega) (own_ge hown2)
            clear hg3 hown2 hB2
            go_wp2
            go_roundg (r.extract n r.size).size
            case measure => have := HXL.out; omega
            case rel =>
              have := HXL.out
              have e : (⟨nb.data.toList, md⟩ : Ky) = ⟨nm, md⟩ := by rw [← HNB.out]
              rw [e] at hown3
              exact ⟨r.extract n r.size, A3, c3, acc ++ [⟨nm, md⟩], rfl, by simp, by rw [List.length_append]; exact hown3, by rw [List.length_append]; show acc.length + 1 + _ ≤ _; omega, Nat.le_refl _, hid (by rw [HXD.out, List.append_assoc]; exact HZ2.out), hb3⟩
end Go.Proofs.YtddigbhijfpmkaaDoor
