/- Layer 3: clean texts: both sides. -/
import Derived.Test.YtoelmcmdiamnnaaDoorRuBl
import Derived.Laws.Concat
namespace Go.Proofs.YtoelmcmdiamnnaaDoor
set_option linter.unusedVariables false
set_option linter.unusedSimpArgs false
set_option maxRecDepth 100000
open Go.RowKit Go.Shelf Go.Lib

/-! ### a rune that is not broken is written as it was read -/
theorem enc_decN (n b0 b1 b2 b3 : Nat) (h0 : b0 < 256) (h1 : b1 < 256) (h2 : b2 < 256) (h3 : b3 < 256) (hne : ¬ ((decodeN n b0 b1 b2 b3).1 = 65533 ∧ (decodeN n b0 b1 b2 b3).2 = 1)) :
    Lib.encodeRuneZ ((decodeN n b0 b1 b2 b3).1 : Int) = ([b0, b1, b2, b3].take (decodeN n b0 b1 b2 b3).2).map fun x : Nat => (x : Int) := by
  unfold decodeN at hne ⊢
  split
  · rename_i c
    rw [Lib.encodeRuneZ_one (by simp only; omega) (by simp only; omega)]
    rfl
  · rename_i c0
    rw [if_neg c0] at hne
    split
    · rename_i c1
      rw [if_pos c1] at hne
      split
      · rename_i c2
        rw [Lib.encodeRuneZ_two (by simp only; omega) (by simp only; omega)]
        simp only [List.take_succ_cons, List.take_zero, List.map_cons, List.map_nil, List.cons.injEq, and_true]
        omega
      · rename_i c2
        rw [if_neg c2] at hne
        simp at hne
    · rename_i c1
      rw [if_neg c1] at hne
      split
      · rename_i c2
        rw [if_pos c2] at hne
        split
        · rename_i c3
          rw [Lib.encodeRuneZ_three (by simp only; omega)]
          simp only [List.take_succ_cons, List.take_zero, List.map_cons, List.map_nil, List.cons.injEq, and_true]
          omega
        · rename_i c3
          rw [if_neg c3] at hne
          simp at hne
      · rename_i c2
        rw [if_neg c2] at hne
        split
        · rename_i c3
          rw [if_pos c3] at hne
          split
          · rename_i c4
            rw [Lib.encodeRuneZ_four (by simp only; omega) (by simp only; omega)]
            simp only [List.take_succ_cons, List.take_zero, List.map_cons, List.map_nil, List.cons.injEq, and_true]
            omega
          · rename_i c4
            rw [if_neg c4] at hne
            simp at hne
        · rename_i c3
          rw [if_neg c3] at hne
          simp at hne
theorem take_getD (l : By) : ∀ (n : Nat), n ≤ l.length → n ≤ 4 → l.take n = [l.getD 0 0, l.getD 1 0, l.getD 2 0, l.getD 3 0].take n := by
  intro n hn h4
  apply List.ext_getElem
  · simp; omega
  · intro i h1 h2
    simp only [List.length_take] at h1
    have hi : i < l.length := by omega
    rw [List.getElem_take, List.getElem_take]
    match i, h1 with
    | 0, _ => simp [List.getD, hi]
    | 1, _ => simp [List.getD, hi]
    | 2, _ => simp [List.getD, hi]
    | 3, _ => simp [List.getD, hi]
    | i + 4, h => omega
theorem enc_dec (l : By) (hl : l ≠ []) (hb : brk (decodeL l) = false) : l.take (wd l) = Lib.encodeRune (rn l : Int) := by
  have hne : ¬ ((decodeL l).1 = 65533 ∧ (decodeL l).2 = 1) := by
    unfold brk at hb
    exact of_decide_eq_false hb
  have hw := wd_le l hl
  have h4 := wd_four l
  rw [take_getD l (wd l) hw h4]
  unfold wd rn
  rw [decodeL_eq] at hne ⊢
  unfold Lib.encodeRune
  rw [enc_decN _ _ _ _ _ (UInt8.toNat_lt _) (UInt8.toNat_lt _) (UInt8.toNat_lt _) (UInt8.toNat_lt _) hne]
  rw [List.map_map]
  generalize (decodeN l.length (l.getD 0 0).toNat (l.getD 1 0).toNat (l.getD 2 0).toNat (l.getD 3 0).toNat).2 = k
  rw [List.map_take]
  congr 1
  simp

def keepR (r : Int) : Bool := !isCtl r || r == 10
def cleanL : List (Nat × Nat) → By
  | [] => []
  | (_, r) :: xs => (if keepR r then Lib.encodeRune (r : Int) else []) ++ cleanL xs
def cleanE (s : ByteArray) : ByteArray := ⟨(cleanL (rs s.data.toList)).toArray⟩
theorem clean_step {s : By} {i : Nat} (hi : i < s.length) : cleanL (rs (lft s i)) = (if keepR (rn (lft s i)) then Lib.encodeRune (rn (lft s i) : Int) else []) ++ cleanL (rs (lft s (i + wd (lft s i)))) := by
  rw [rs_lft hi]
  rfl
theorem clean_end (s : By) : cleanL (rs (lft s s.length)) = [] := by
  have : lft s s.length = [] := by simp [lft]
  rw [this, rs_nil]
  rfl
theorem enc_len (r : Int) : (Lib.encodeRune r).length ≤ 4 := by rw [← Lib.runeCells_length]; exact (Lib.runeCells_le r).2
set_option maxHeartbeats 4000000
set_option maxRecDepth 100000
theorem Clean_any (s : ByteArray) (w : World) (hs : s.size ≤ 4000000) :
    Calls Tryd.prog 16 #[.string s] w fun e w' => e = .returned (.string (cleanE s)) ∧ Below w.heap.size w w' := by
  have hlen : s.data.toList.length = s.size := by simp
  have he : cleanE s = ⟨(cleanL (rs s.data.toList)).toArray⟩ := rfl
  have h00 : cleanL (rs s.data.toList) = cleanL (rs (lft s.data.toList 0)) := by simp [lft]
  have HE := hid he
  have H0 := hid h00
  clear he h00
  generalize cleanE s = Z at *
  go_enter Tryd.func16, Tryd.ntmps16
  go_wp2
  go_loopg [] s.size (fun gh wr => ∃ (pos : Nat) (acc : List UInt8), pos ≤ s.size ∧ s.size - pos ≤ gh ∧ wr.heap[w.heap.size + 1]? = some (.stringIter s pos) ∧ Hid (Lib.IsBuilderF 61 5 w.heap.size w.heap.size (Lib.byteCells acc) wr) ∧ Hid (Below w.heap.size w wr) ∧ Hid (acc ++ cleanL (rs (lft s.data.toList pos)) = cleanL (rs s.data.toList)) ∧ acc.length ≤ 4 * pos)
  case atStart =>
    refine ⟨0, [], by omega, by omega, ?_, hid ((Lib.IsBuilderF.of (Lib.fresh_isBuilder 61 5 w)).alloc _), hid (((Below.refl _ w).alloc (Nat.le_refl _) _).alloc (by simp) _), hid H0.out.symm, by simp⟩
    have := World.iter_heap (w.alloc (.cells #[.pointer none, .slice none 0 0] 61)) s 0
    simpa using this
  case round =>
    obtain ⟨pos, acc, hp, hgh, hit, HI, HB, HA, hal⟩ := hrel
    have hsz : w.heap.size + 1 < wr.heap.size := lt_of_block hit
    by_cases hlt : pos < s.size
    · have hlt' : pos < s.data.toList.length := by omega
      have hst := clean_step hlt'
      have hw1 := wd_pos (lft s.data.toList pos)
      have hw2 := lft_wd hlt'
      have hrn := rn_le (lft s.data.toList pos)
      have hnx : ∀ ty, (Instr.next (.pointer (some ⟨w.heap.size + 1, 0, none⟩)) true ty).run Tryd.prog wr = .ok (.tuple #[.bool true, .int .i64 pos, .int .i32 (rn (lft s.data.toList pos) : Int)]) (wr.iterAt (w.heap.size + 1) s (pos + wd (lft s.data.toList pos))) := fun ty => by
        rw [Lib.run_next_any_at wr (w.heap.size + 1) s pos ty hit hlt, decode_drop]
        rfl
      have hI2 := HI.out.iterAt hit (pos + wd (lft s.data.toList pos))
      have hit2 := Lib.iterAt_heap wr (w.heap.size + 1) s pos (pos + wd (lft s.data.toList pos)) hit
      have hbw2 := Lib.below_iterAt HB.out (k := w.heap.size + 1) (by omega) s (pos + wd (lft s.data.toList pos))
      have hsz2 : w.heap.size ≤ (wr.iterAt (w.heap.size + 1) s (pos + wd (lft s.data.toList pos))).heap.size := by rw [Lib.iterAt_size]; omega
      have HS := hid hst
      clear hst HI HB hit
      generalize wr.iterAt (w.heap.size + 1) s (pos + wd (lft s.data.toList pos)) = W at *
      generalize wd (lft s.data.toList pos) = n at *
      generalize rn (lft s.data.toList pos) = r at *
      have HW := hid (And.intro hI2 (And.intro hit2 hbw2))
      have hCC := fun x => ctl_any (r : Int) x
      have CW := fun h => wr_any w.heap.size w.heap.size (Lib.byteCells acc) (r : Int) (by omega) (by omega) W HW.out.1 h hsz2
      clear hI2 hit2 hbw2
      have hel := enc_len (r : Int)
      have hKeep : keepR r = true → isCtl (r : Int) = false ∨ (isCtl (r : Int) = true ∧ (r : Int) = 10) := by
        intro h
        unfold keepR at h
        cases hc : isCtl (r : Int) with
        | false => exact .inl rfl
        | true =>
          rw [hc] at h
          exact .inr ⟨rfl, by simpa using h⟩
      by_cases hk : keepR r = true
      · have hA2 : (acc ++ Lib.encodeRune (r : Int)) ++ cleanL (rs (lft s.data.toList (pos + n))) = cleanL (rs s.data.toList) := by
          rw [← HA.out, HS.out, if_pos hk, List.append_assoc]
        have HA2 := hid hA2
        have CW' := CW (by rw [Lib.byteCells_length]; omega)
        have hkk := hKeep hk
        clear hA2 HA HS hk hKeep CW
        rcases hkk with hc | ⟨hc, h10⟩
        all_goals
          rw [hc] at hCC
          (try rw [h10] at hCC CW')
          go_wp2_with fail
          refine (hCC _).mono ?_
          rintro e w2 ⟨rfl, rfl⟩
          go_wp2_with fail
          refine CW'.mono ?_
          rintro e w3 ⟨⟨z, rfl⟩, hI3, hb3, hk3⟩
          have hit3 : w3.heap[w.heap.size + 1]? = some (.stringIter s (pos + n)) := hk3.iter HW.out.2.1 (by omega)
          have HI3 : Hid (Lib.IsBuilderF 61 5 w.heap.size w.heap.size (Lib.byteCells (acc ++ Lib.encodeRune (r : Int))) w3) := hid (by rw [Lib.byteCells_append, Lib.byteCells_encodeRune]; (first | exact hI3 | (rw [h10]; exact hI3)))
          have HB3 := hid (HW.out.2.2.trans hb3)
          clear hI3 hb3 hk3
          go_wp2
          go_roundg (s.size - (pos + n))
          case measure => omega
          case rel => exact ⟨pos + n, acc ++ Lib.encodeRune (r : Int), by omega, by omega, hit3, HI3, HB3, HA2, by rw [List.length_append]; omega⟩
      · have hk' : keepR r = false := by simpa using hk
        have hA2 : acc ++ cleanL (rs (lft s.data.toList (pos + n))) = cleanL (rs s.data.toList) := by
          rw [← HA.out, HS.out, if_neg hk, List.nil_append]
        have HA2 := hid hA2
        have hc : isCtl (r : Int) = true ∧ ((r : Int) == 10) = false := by
          unfold keepR at hk'
          rw [Bool.or_eq_false_iff] at hk'
          exact ⟨by simpa using hk'.1, hk'.2⟩
        obtain ⟨hc1, hc2⟩ := hc
        rw [hc1] at hCC
        clear hA2 HA HS hk hKeep CW hk'
        go_wp2_with fail
        refine (hCC _).mono ?_
        rintro e w2 ⟨rfl, rfl⟩
        have hit3 := HW.out.2.1
        go_wp2
        go_roundg (s.size - (pos + n))
        case measure => omega
        case rel => exact ⟨pos + n, acc, by omega, by omega, HW.out.2.1, hid HW.out.1, hid HW.out.2.2, HA2, by omega⟩
    · have hie : pos = s.data.toList.length := by omega
      have hA2 : acc = cleanL (rs s.data.toList) := by rw [← HA.out, hie, clean_end, List.append_nil]
      have hnx : ∀ ty, (Instr.next (.pointer (some ⟨w.heap.size + 1, 0, none⟩)) true ty).run Tryd.prog wr = _ := fun ty => Lib.run_next_end_at wr (w.heap.size + 1) s pos ty hit hlt
      have hZ : Z = ⟨acc.toArray⟩ := by rw [HE.out, hA2]
      have HZ := hid hZ
      have CS := str_any w.heap.size w.heap.size acc wr HI.out (by omega)
      clear hie hA2 hZ
      go_wp2_with fail
      refine CS.mono ?_
      rintro e w2 ⟨rfl, hb2⟩
      go_wp2
      go_ret
      exact ⟨by rw [HZ.out]; rfl, HB.out.trans hb2⟩
end Go.Proofs.YtoelmcmdiamnnaaDoor
