/- Layer 3: clean texts: the reference. -/
import Derived.Test.YtoelmcmdiamnnaaDoorRuCl
namespace Go.Proofs.YtoelmcmdiamnnaaDoor
set_option linter.unusedVariables false
set_option linter.unusedSimpArgs false
set_option maxRecDepth 100000
open Go.RowKit Go.Shelf Go.Lib

theorem ext_bytes (s : ByteArray) (i n : Nat) : (s.extract i (i + n)).data.toList = (lft s.data.toList i).take n := by
  simp only [lft, ByteArray.data_extract, Array.toList_extract]
  rw [List.extract_eq_take_drop]
  congr 1
  omega
theorem cat_bytes (a b : ByteArray) : (a ++ b).data.toList = a.data.toList ++ b.data.toList := by
  rw [ByteArray.data_append, Array.toList_append]
theorem enc_bad : Lib.encodeRune 65533 = [239, 191, 189] := by decide
theorem keep_bad : keepR 65533 = true := by decide
set_option maxHeartbeats 4000000
set_option maxRecDepth 100000
theorem rClean_any (s : ByteArray) (w : World) (hs : s.size ≤ 4000000) :
    Calls Tryd.prog 17 #[.string s] w fun e w' => e = .returned (.string (cleanE s)) ∧ Below w.heap.size w w' := by
  have hlen : s.data.toList.length = s.size := by simp
  have he : cleanE s = ⟨(cleanL (rs s.data.toList)).toArray⟩ := rfl
  have h00 : cleanL (rs s.data.toList) = cleanL (rs (lft s.data.toList 0)) := by simp [lft]
  have HE := hid he
  have H0 := hid h00
  clear he h00
  generalize cleanE s = Z at *
  go_enter Tryd.func17, Tryd.ntmps17
  go_wp2
  go_loopg [3, 4] s.size (fun gh v3 v4 wr => ∃ (i : Nat) (acc : ByteArray), v3 = .string acc ∧ v4 = .int .i64 i ∧ i ≤ s.size ∧ s.size - i ≤ gh ∧ Hid (acc.data.toList ++ cleanL (rs (lft s.data.toList i)) = cleanL (rs s.data.toList)) ∧ acc.size ≤ 4 * i ∧ Below w.heap.size w wr)
  case atStart => exact ⟨0, { data := #[] }, rfl, rfl, by omega, by omega, hid H0.out.symm, by decide, Below.refl _ _⟩
  case round =>
    obtain ⟨i, acc, rfl, rfl, hi, hgh, HA, hal, hbr⟩ := hrel
    by_cases hlt : i < s.size
    · have hli : (i : Int) < (s.size : Int) := by omega
      have hlt' : i < s.data.toList.length := by omega
      have hst := clean_step hlt'
      have hw1 := wd_pos (lft s.data.toList i)
      have hw2 := lft_wd hlt'
      have hw4 := wd_four (lft s.data.toList i)
      have C := one_at s i hlt wr
      have HS := hid hst
      have hxb := ext_bytes s i (wd (lft s.data.toList i))
      have hed := enc_dec _ (lft_ne hlt')
      clear hst
      cases hb : brk (decodeL (lft s.data.toList i)) with
      | true =>
        have hb2 : rn (lft s.data.toList i) = 65533 ∧ wd (lft s.data.toList i) = 1 := of_decide_eq_true hb
        rw [hb] at C
        have hcat := fun x => run_string_add_sum (P := Tryd.prog) x acc { data := #[239, 191, 189] } (by show acc.size + 3 ≤ _; omega)
        have hA2 : (acc ++ { data := #[239, 191, 189] } : ByteArray).data.toList ++ cleanL (rs (lft s.data.toList (i + wd (lft s.data.toList i)))) = cleanL (rs s.data.toList) := by
          rw [cat_bytes, ← HA.out, HS.out, hb2.1]
          rw [show ((65533 : Nat) : Int) = 65533 from rfl, if_pos keep_bad, enc_bad, List.append_assoc]
        have hsz : (acc ++ { data := #[239, 191, 189] } : ByteArray).size ≤ 4 * (i + wd (lft s.data.toList i)) := by
          rw [ByteArray.size_append]
          show acc.size + 3 ≤ _
          omega
        have HN := hid (And.intro hA2 hsz)
        clear hb2 hb HS HA hed hxb hA2 hsz
        generalize wd (lft s.data.toList i) = n at *
        generalize rn (lft s.data.toList i) = r at *
        go_wp2_with fail
        refine C.mono ?_
        rintro e w2 ⟨rfl, rfl⟩
        go_wp2
        go_roundg (s.size - (i + n))
        case measure => omega
        case rel => exact ⟨i + n, _, rfl, by go_num, by omega, by omega, hid HN.out.1, HN.out.2, hbr⟩
      | false =>
        have hed2 := hed hb
        rw [hb] at C
        clear hed hb
        generalize wd (lft s.data.toList i) = n at *
        generalize rn (lft s.data.toList i) = r at *
        have hCC := fun x => rctl_any (r : Int) x
        have hii : (i : Int) + (n : Int) ≤ (s.size : Int) := by omega
        by_cases hk : keepR r = true
        · have hxs : (s.extract i (i + n)).size = n := by rw [ByteArray.size_extract]; omega
          have hcat := fun x => run_string_add_sum (P := Tryd.prog) x acc (s.extract i (i + n)) (by omega)
          have hA2 : (acc ++ s.extract i (i + n)).data.toList ++ cleanL (rs (lft s.data.toList (i + n))) = cleanL (rs s.data.toList) := by
            rw [cat_bytes, ← HA.out, HS.out, if_pos hk, hxb, hed2, List.append_assoc]
          have hsz : (acc ++ s.extract i (i + n)).size ≤ 4 * (i + n) := by
            rw [ByteArray.size_append, hxs]
            omega
          have HN := hid (And.intro hA2 hsz)
          have hkk : isCtl (r : Int) = false ∨ (isCtl (r : Int) = true ∧ ((r : Int) == 10) = true) := by
            unfold keepR at hk
            cases hc : isCtl (r : Int) with
            | false => exact .inl rfl
            | true =>
              rw [hc] at hk
              exact .inr ⟨rfl, by simpa using hk⟩
          clear hA2 hsz hxs hxb hed2 HA HS hk
          rcases hkk with hc | ⟨hc, h10⟩
          · rw [hc] at hCC
            go_wp2_with fail
            refine C.mono ?_
            rintro e w2 ⟨rfl, rfl⟩
            go_wp2_with fail
            refine (hCC _).mono ?_
            rintro e w2 ⟨rfl, rfl⟩
            go_wp2
            go_roundg (s.size - (i + n))
            case measure => omega
            case rel => exact ⟨i + n, _, rfl, by go_num, by omega, by omega, hid HN.out.1, HN.out.2, hbr⟩
          · rw [hc] at hCC
            go_wp2_with fail
            refine C.mono ?_
            rintro e w2 ⟨rfl, rfl⟩
            go_wp2_with fail
            refine (hCC _).mono ?_
            rintro e w2 ⟨rfl, rfl⟩
            go_wp2
            go_roundg (s.size - (i + n))
            case measure => omega
            case rel => exact ⟨i + n, _, rfl, by go_num, by omega, by omega, hid HN.out.1, HN.out.2, hbr⟩
        · have hk' : keepR r = false := by simpa using hk
          have hA2 : acc.data.toList ++ cleanL (rs (lft s.data.toList (i + n))) = cleanL (rs s.data.toList) := by
            rw [← HA.out, HS.out, if_neg hk, List.nil_append]
          have HN := hid hA2
          have hc : isCtl (r : Int) = true ∧ ((r : Int) == 10) = false := by
            unfold keepR at hk'
            rw [Bool.or_eq_false_iff] at hk'
            exact ⟨by simpa using hk'.1, hk'.2⟩
          obtain ⟨hc1, hc2⟩ := hc
          rw [hc1] at hCC
          clear hA2 hxb hed2 HA HS hk hk'
          go_wp2_with fail
          refine C.mono ?_
          rintro e w2 ⟨rfl, rfl⟩
          go_wp2_with fail
          refine (hCC _).mono ?_
          rintro e w2 ⟨rfl, rfl⟩
          go_wp2
          go_roundg (s.size - (i + n))
          case measure => omega
          case rel => exact ⟨i + n, acc, rfl, by go_num, by omega, by omega, HN, by omega, hbr⟩
    · have hie : i = s.data.toList.length := by omega
      have hZ : Z = acc := by
        rw [HE.out, ← HA.out, hie, clean_end, List.append_nil]
      have HZ := hid hZ
      have hli : ¬ ((i : Int) < (s.size : Int)) := by omega
      clear hie hZ
      go_wp2
      go_ret
      exact ⟨by rw [HZ.out]; rfl, hbr⟩
end Go.Proofs.YtoelmcmdiamnnaaDoor
