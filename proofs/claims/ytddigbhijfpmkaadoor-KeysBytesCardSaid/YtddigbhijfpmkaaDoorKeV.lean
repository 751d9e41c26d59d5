/- Layer 21: Bytes of the program. -/
import Derived.Test.YtddigbhijfpmkaaDoorKeT
import Derived.Test.YtddigbhijfpmkaaDoorKeH
namespace Go.Proofs.YtddigbhijfpmkaaDoor
set_option linter.unusedVariables false
set_option linter.unusedSimpArgs false
set_option maxRecDepth 100000
open Go.RowKit Go.Shelf Go.Lib
set_option maxRecDepth 100000
set_option maxHeartbeats 4000000

def BytesL (l : By) : List Ky × Nat × Nat := if 65536 < l.length then ([], 0, 3) else ((bytesL l).1, (bytesL l).2, 0)
theorem Bytes_any (s : ByteArray) (w : World) (hT : Tabs w) : Calls Tryd.prog 10 #[.string s] w (ChordP w (BytesL s.data.toList)) := by
  unfold BytesL
  rw [ba_len]
  by_cases h : 65536 < s.size
  · have h1 : (65536 : Int) < (s.size : Int) := by omega
    rw [if_pos h]
    go_enter Tryd.func10, Tryd.ntmps10
    go_wp2
    exact bodyPost_ret (by simp [results, Tryd.results10, go_sem, *]) rfl ⟨none, 0, rfl, World.ownsRow_nil _ _ _ _, Below.refl _ _⟩
  · have h1 : ¬ ((65536 : Int) < (s.size : Int)) := by omega
    rw [if_neg h]
    obtain ⟨Z, hZ⟩ : ∃ Z, ((bytesL s.data.toList).1, (bytesL s.data.toList).2, 0) = Z := ⟨_, rfl⟩
    rw [hZ]
    have hsz : s.size ≤ 65536 := by omega
    have HZ0 := hid hZ
    clear hZ h
    go_enter Tryd.func10, Tryd.ntmps10
    go_wp2
    go_loopg [0, 5] s.size (fun gh v0 v5 wr => ∃ (r : ByteArray) (A : Option Addr) (c : Nat) (acc : List Ky), v0 = .string r ∧ v5 = .slice A acc.length c ∧ wr.ownsRow w.heap.size 31 2 (.slice A acc.length c) acc.length (kys acc) ∧ acc.length + r.size ≤ 65536 ∧ r.size ≤ gh ∧
      Hid ((acc ++ (bytesL r.data.toList).1, (bytesL r.data.toList).2, 0) = Z) ∧ Below w.heap.size w wr)
    case atStart => exact ⟨s, none, 0, [], rfl, rfl, World.ownsRow_nil _ _ _ _, by simpa using hsz, Nat.le_refl _, hid HZ0.out, Below.refl _ _⟩
    case round =>
      obtain ⟨r, A, c, acc, rfl, rfl, hown, hacc, hgh, HZ, hbr⟩ := hrel
      have hsr := hbr.size
      by_cases hr : r.size = 0
      · have c1 : decide ((0 : Int) < (r.size : Int)) = false := decide_eq_false (by omega)
        have c2 : ¬ ((0 : Int) < (r.size : Int)) := by omega
        have c3 : ¬ (0 < r.size) := by omega
        have hz := HZ.out
        rw [List.eq_nil_of_length_eq_zero (show r.data.toList.length = 0 by rw [ba_len]; exact hr), bytesL_nil, List.append_nil] at hz
        subst hz
        go_wp2
        exact bodyPost_ret (by simp [results, Tryd.results10, go_sem, *]) rfl ⟨A, c, rfl, hown, hbr⟩
      · have c1 : decide ((0 : Int) < (r.size : Int)) = true := decide_eq_true (by omega)
        have c2 : (0 : Int) < (r.size : Int) := by omega
        have c3 : 0 < r.size := by omega
        have hne : r.data.toList ≠ [] := fun e => by have := ba_len r; rw [e, List.length_nil] at this; omega
        have CT := thing_any r wr (tabs_on hT hbr) (by omega) (by omega)
        have hle := thing_le hne
        have hwait := bytesL_wait hne
        have hstep := bytesL_step hne
        rw [ba_len] at hle hwait
        obtain ⟨⟨⟨nm, md⟩, n⟩, hp⟩ : ∃ y, thingL r.data.toList = y := ⟨_, rfl⟩
        rw [hp] at CT hle hwait hstep
        rw [pV_at] at CT
        simp only at hle hwait hstep
        have he := toList_nil nm
        obtain ⟨nb, hnb⟩ : ∃ x, (⟨nm.toArray⟩ : ByteArray) = x := ⟨_, rfl⟩
        rw [hnb] at CT he
        have HNB := hid hnb
        have hxl : (r.extract n r.size).size = r.size - n := by rw [ByteArray.size_extract]; omega
        have hxd := ba_drop r n
        have hdl : ((⟨(r.data.toList.drop n).toArray⟩ : ByteArray)).data.toList = r.data.toList.drop n := rfl
        clear hnb hp hne
        by_cases hn : n = 0
        · have hz := HZ.out
          rw [hwait hn, List.append_nil] at hz
          subst hz
          have n0 : ((n : Int) == 0) = true := beq_iff_eq.2 (by omega)
          clear hwait hstep hxl hxd hdl he
          go_wp2_with fail
          with_reducible refine CT.mono ?_
          rintro e w2 ⟨rfl, hb2⟩
          have hown2 := own_below' hown hb2
          have hB2 := hbr.trans (hb2.mono hbr.size)
          have hs2 := hB2.size
          clear hb2 CT hown hbr
          go_wp2
          exact bodyPost_ret (by simp [results, Tryd.results10, go_sem, *]) rfl ⟨A, c, rfl, hown2.alloc _, hB2.alloc hs2 _⟩
        · have n0 : ((n : Int) == 0) = false := beq_eq_false_iff_ne.2 (by omega)
          have hz := HZ.out
          rw [hstep hn] at hz
          have hni : (n : Int) ≤ (r.size : Int) := by omega
          have HXD := hid hxd
          have HHN := hid hn
          have hxl2 : acc.length + 1 + (r.extract n r.size).size ≤ 65536 ∧ (r.extract n r.size).size < r.size := by rw [hxl]; omega
          have HXL := hid hxl2
          clear hwait hstep hxl hxd hdl hn hxl2
          by_cases hnm : nm = []
          · simp only [if_pos hnm] at hz
            have he2 : (nb.toList == []) = true := by rw [he]; exact decide_eq_true hnm
            have HZ2 := hid hz
            clear hz he
            go_wp2_with fail
            with_reducible refine CT.mono ?_
            rintro e w2 ⟨rfl, hb2⟩
            have hown2 := own_below' hown hb2
            have hB2 := hbr.trans (hb2.mono hbr.size)
            have hs2 := hB2.size
            clear hb2 CT hown hbr
            go_wp2
            go_roundg (r.extract n r.size).size
            case measure => have := HXL.out; omega
            case rel =>
              have := HXL.out
              exact ⟨r.extract n r.size, A, c, acc, rfl, rfl, hown2.alloc _, by omega, Nat.le_refl _, hid (by rw [HXD.out]; exact HZ2.out), hB2.alloc hs2 _⟩
          · simp only [if_neg hnm] at hz
            have he2 : (nb.toList == []) = false := by rw [he]; exact decide_eq_false hnm
            have HZ2 := hid hz
            clear hz he
            have hacc2 : acc.length ≤ 1000000 := by omega
            go_wp2_with fail
            with_reducible refine CT.mono ?_
            rintro e w2 ⟨rfl, hb2⟩
            have hown2 := own_below' hown hb2
            have hB2 := hbr.trans (hb2.mono hbr.size)
            have hs2 := hB2.size
            clear hb2 CT hown hbr
            go_wp2_with (first | (at_builtin; refine append_key rfl (.tmp 24) (.tmp 26) rfl w.heap.size _ acc nb md (w2.heap.size + 1) rfl rfl ((hown2.alloc _).alloc _) (by simp [go_sem]) (by simp [go_sem]) ?_ ?_ ?_))
            · omega
            · simp; omega
            intro v3 w3 hown3 hg3 _
            obtain ⟨A3, c3, rfl⟩ := own_shape hown3
            have hb3 : Below w.heap.size w w3 := ((hB2.alloc hs2 _).alloc (by simp; omega) _).grown hg3 (by simp; omega) (own_ge hown2)
            clear hg3 hown2 hB2
            go_wp2
            go_roundg (r.extract n r.size).size
            case measure => have := HXL.out; omega
            case rel =>
              have := HXL.out
              have e : (⟨nb.data.toList, md⟩ : Ky) = ⟨nm, md⟩ := by rw [← HNB.out]
              rw [e] at hown3
              exact ⟨r.extract n r.size, A3, c3, acc ++ [⟨nm, md⟩], rfl, by simp, by rw [List.length_append]; exact hown3, by rw [List.length_append]; show acc.length + 1 + _ ≤ _; omega, Nat.le_refl _, hid (by rw [HXD.out, List.append_assoc]; exact HZ2.out), hb3⟩
end Go.Proofs.YtddigbhijfpmkaaDoor
