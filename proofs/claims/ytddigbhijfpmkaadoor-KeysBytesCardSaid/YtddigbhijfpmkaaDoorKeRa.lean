/- Layer 21: mods, parted, arrow, tilde of the reference. (Printed by gen_ra.py.) -/
import Derived.Test.YtddigbhijfpmkaaDoorKeV
namespace Go.Proofs.YtddigbhijfpmkaaDoor
set_option linter.unusedVariables false
set_option linter.unusedSimpArgs false
set_option maxRecDepth 100000
open Go.RowKit Go.Shelf Go.Lib
set_option maxRecDepth 100000
set_option maxHeartbeats 8000000

def modsV (o : Option Nat) : Value := match o with | some k => .tuple #[.int .u8 (k : Int), .bool true] | none => .tuple #[.int .u8 0, .bool false]
theorem rmods_any (m : ByteArray) (w : World) : Calls Tryd.prog 78 #[.string m] w fun e w' => e = .returned (modsV (modsL m.data.toList)) ∧ w = w' := by
  by_cases hm : m.size = 1
  · have m1 : ((m.size : Int) == 1) = true := beq_iff_eq.2 (by omega)
    have m2 : ((m.size : Int) != 1) = false := by rw [bne, m1]; rfl
    have h0 : 0 < m.size := by omega
    rw [one_list m hm, modsL_one]
    obtain ⟨x, hx⟩ : ∃ x, m[0].toNat = x := ⟨_, rfl⟩
    rw [hx]
    have hx8 : x < 256 := by rw [← hx]; exact m[0].toNat_lt
    by_cases h : 50 ≤ x ∧ x ≤ 56
    · rw [if_pos h]
      have hc : x = 50 ∨ x = 51 ∨ x = 52 ∨ x = 53 ∨ x = 54 ∨ x = 55 ∨ x = 56 := by omega
      clear h
      rcases hc with rfl | rfl | rfl | rfl | rfl | rfl | rfl
      · rw [show modsV (some (modsN (50 - 49))) = .tuple #[.int .u8 1, .bool true] by kernel_rfl]
        have a1 : bits .and .u8 1 1 = 1 := by kernel_rfl
        have a2 : bits .and .u8 1 2 = 0 := by kernel_rfl
        have a3 : bits .and .u8 1 4 = 0 := by kernel_rfl
        have a4 : bits .or .u8 1 0 = 1 := by kernel_rfl
        have a5 : bits .or .u8 1 0 = 1 := by kernel_rfl
        go_enter Tryd.func78, Tryd.ntmps78
        go_wp2
        exact bodyPost_ret (by simp [results, Tryd.results78, go_sem, *]) rfl ⟨rfl, rfl⟩
      · rw [show modsV (some (modsN (51 - 49))) = .tuple #[.int .u8 4, .bool true] by kernel_rfl]
        have a1 : bits .and .u8 2 1 = 0 := by kernel_rfl
        have a2 : bits .and .u8 2 2 = 2 := by kernel_rfl
        have a3 : bits .and .u8 2 4 = 0 := by kernel_rfl
        have a4 : bits .or .u8 0 4 = 4 := by kernel_rfl
        have a5 : bits .or .u8 4 0 = 4 := by kernel_rfl
        go_enter Tryd.func78, Tryd.ntmps78
        go_wp2
        exact bodyPost_ret (by simp [results, Tryd.results78, go_sem, *]) rfl ⟨rfl, rfl⟩
      · rw [show modsV (some (modsN (52 - 49))) = .tuple #[.int .u8 5, .bool true] by kernel_rfl]
        have a1 : bits .and .u8 3 1 = 1 := by kernel_rfl
        have a2 : bits .and .u8 3 2 = 2 := by kernel_rfl
        have a3 : bits .and .u8 3 4 = 0 := by kernel_rfl
        have a4 : bits .or .u8 1 4 = 5 := by kernel_rfl
        have a5 : bits .or .u8 5 0 = 5 := by kernel_rfl
        go_enter Tryd.func78, Tryd.ntmps78
        go_wp2
        exact bodyPost_ret (by simp [results, Tryd.results78, go_sem, *]) rfl ⟨rfl, rfl⟩
      · rw [show modsV (some (modsN (53 - 49))) = .tuple #[.int .u8 2, .bool true] by kernel_rfl]
        have a1 : bits .and .u8 4 1 = 0 := by kernel_rfl
        have a2 : bits .and .u8 4 2 = 0 := by kernel_rfl
        have a3 : bits .and .u8 4 4 = 4 := by kernel_rfl
        have a4 : bits .or .u8 0 0 = 0 := by kernel_rfl
        have a5 : bits .or .u8 0 2 = 2 := by kernel_rfl
        go_enter Tryd.func78, Tryd.ntmps78
        go_wp2
        exact bodyPost_ret (by simp [results, Tryd.results78, go_sem, *]) rfl ⟨rfl, rfl⟩
      · rw [show modsV (some (modsN (54 - 49))) = .tuple #[.int .u8 3, .bool true] by kernel_rfl]
        have a1 : bits .and .u8 5 1 = 1 := by kernel_rfl
        have a2 : bits .and .u8 5 2 = 0 := by kernel_rfl
        have a3 : bits .and .u8 5 4 = 4 := by kernel_rfl
        have a4 : bits .or .u8 1 0 = 1 := by kernel_rfl
        have a5 : bits .or .u8 1 2 = 3 := by kernel_rfl
        go_enter Tryd.func78, Tryd.ntmps78
        go_wp2
        exact bodyPost_ret (by simp [results, Tryd.results78, go_sem, *]) rfl ⟨rfl, rfl⟩
      · rw [show modsV (some (modsN (55 - 49))) = .tuple #[.int .u8 6, .bool true] by kernel_rfl]
        have a1 : bits .and .u8 6 1 = 0 := by kernel_rfl
        have a2 : bits .and .u8 6 2 = 2 := by kernel_rfl
        have a3 : bits .and .u8 6 4 = 4 := by kernel_rfl
        have a4 : bits .or .u8 0 4 = 4 := by kernel_rfl
        have a5 : bits .or .u8 4 2 = 6 := by kernel_rfl
        go_enter Tryd.func78, Tryd.ntmps78
        go_wp2
        exact bodyPost_ret (by simp [results, Tryd.results78, go_sem, *]) rfl ⟨rfl, rfl⟩
      · rw [show modsV (some (modsN (56 - 49))) = .tuple #[.int .u8 7, .bool true] by kernel_rfl]
        have a1 : bits .and .u8 7 1 = 1 := by kernel_rfl
        have a2 : bits .and .u8 7 2 = 2 := by kernel_rfl
        have a3 : bits .and .u8 7 4 = 4 := by kernel_rfl
        have a4 : bits .or .u8 1 4 = 5 := by kernel_rfl
        have a5 : bits .or .u8 5 2 = 7 := by kernel_rfl
        go_enter Tryd.func78, Tryd.ntmps78
        go_wp2
        exact bodyPost_ret (by simp [results, Tryd.results78, go_sem, *]) rfl ⟨rfl, rfl⟩
    · rw [if_neg h]
      have hc : (decide ((x : Int) < 50) = true) ∨ (decide ((x : Int) < 50) = false ∧ decide ((56 : Int) < (x : Int)) = true) := by
        by_cases h' : x < 50
        · exact .inl (decide_eq_true (by omega))
        · exact .inr ⟨decide_eq_false (by omega), decide_eq_true (by omega)⟩
      clear h
      rw [show modsV none = .tuple #[.int .u8 0, .bool false] from rfl]
      rcases hc with q | ⟨q, q'⟩
      all_goals
        go_enter Tryd.func78, Tryd.ntmps78
        go_wp2
        exact bodyPost_ret (by simp [results, Tryd.results78, go_sem, *]) rfl ⟨rfl, rfl⟩
  · have m1 : ((m.size : Int) == 1) = false := beq_eq_false_iff_ne.2 (by omega)
    have m2 : ((m.size : Int) != 1) = true := by rw [bne, m1]; rfl
    rw [modsL_no _ (by rw [ba_len]; exact hm), show modsV none = .tuple #[.int .u8 0, .bool false] from rfl]
    clear hm
    go_enter Tryd.func78, Tryd.ntmps78
    go_wp2
    exact bodyPost_ret (by simp [results, Tryd.results78, go_sem, *]) rfl ⟨rfl, rfl⟩
def cutV (Z : By × By × Bool) : Value := .tuple #[.string ⟨Z.1.toArray⟩, .string ⟨Z.2.1.toArray⟩, .bool Z.2.2]
theorem rparted_any (s : ByteArray) (hs : s.size ≤ 4000000) (w : World) : Calls Tryd.prog 77 #[.string s] w fun e w' => e = .returned (cutV (cutS s.data.toList)) ∧ Below w.heap.size w w' := by
  obtain ⟨⟨p, q, two⟩, hZ⟩ : ∃ y, cutS s.data.toList = y := ⟨_, rfl⟩
  rw [hZ]
  have HZ := hid hZ
  unfold cutV
  simp only
  clear hZ
  go_enter Tryd.func77, Tryd.ntmps77
  go_wp2
  go_loopw [2, 3, 4, 5] (fun v2 v3 v4 v wr => ∃ i : Nat, v = .int .i64 i ∧ i ≤ s.size ∧ Hid (cutS s.data.toList = (s.data.toList.take i ++ (cutS (s.data.toList.drop i)).1, (cutS (s.data.toList.drop i)).2)) ∧ Below w.heap.size w wr) (fun _ _ _ v _ => s.size - (RowKit.intOf v).toNat)
  case atStart => exact ⟨0, rfl, by omega, hid (by rw [List.take_zero, List.drop_zero, List.nil_append]), Below.refl _ _⟩
  case round =>
    obtain ⟨i, rfl, hi, HC, hbr⟩ := hrel
    have hsr := hbr.size
    by_cases hl : i < s.size
    · have i1 : (i : Int) < (s.size : Int) := by omega
      have i2 : decide ((i : Int) < (s.size : Int)) = true := decide_eq_true i1
      have i3 : decide (i < s.size) = true := decide_eq_true hl
      have hdr : s.data.toList.drop i = s[i] :: s.data.toList.drop (i + 1) := by
        rw [List.drop_eq_getElem_cons (by rw [ba_len]; exact hl)]
        rfl
      have hc := HC.out
      rw [hdr, cutS_cons] at hc
      by_cases hx : s[i] = 59
      · rw [if_pos hx] at hc
        simp only [List.append_nil] at hc
        rw [HZ.out] at hc
        have HE : Hid (p = s.data.toList.take i ∧ q = s.data.toList.drop (i + 1) ∧ two = true) := by
          injection hc with h1 h2
          injection h2 with h2 h3
          exact hid ⟨h1, h2, h3⟩
        have hx1 : ((s[i].toNat : Int) == 59) = true := beq_iff_eq.2 (by rw [hx]; decide)
        have j1 : (i : Int) ≤ (s.size : Int) := by omega
        have j2 : (i : Int) + 1 ≤ (s.size : Int) := by omega
        have j3 : i ≤ s.size := hi
        have j4 : i + 1 ≤ s.size := by omega
        have hwr : IntKind.i64.wrap ((i : Int) + 1) = (i : Int) + 1 := IntWalk.i64_in _ (by omega)
        have j5 : (0 : Int) ≤ (i : Int) + 1 := by omega
        have j6 : ((i : Int) + 1).toNat = i + 1 := by omega
        clear hc hx hdr HC HZ
        go_wp2
        refine region_ext mixed (by kernel_rfl) ?_
        (repeat (go_big_quiet_step (fail)))
        refine wpQuiet_nil ?_
        intro w6 hb6
        go_wp2
        refine bodyPost_ret (v := .tuple #[.string (s.extract 0 i), .string (s.extract (i + 1) s.size), .bool true]) (by simp [results, Tryd.results77, go_sem, *]) rfl ⟨by rw [HE.out.1, HE.out.2.1, HE.out.2.2, ← ba_take, ← ba_drop], hbr.trans (hb6.mono hsr)⟩
      · rw [if_neg hx] at hc
        have hx1 : ((s[i].toNat : Int) == 59) = false := beq_eq_false_iff_ne.2 (fun h => hx (UInt8.toNat_inj.1 (by show s[i].toNat = 59; omega)))
        have HC2 : Hid (cutS s.data.toList = (s.data.toList.take (i + 1) ++ (cutS (s.data.toList.drop (i + 1))).1, (cutS (s.data.toList.drop (i + 1))).2)) := hid (by
          rw [hc, List.take_succ_eq_append_getElem (by rw [ba_len]; exact hl), List.append_assoc]
          rfl)
        clear hc hx hdr HC
        go_wp2
        go_roundw
        case rel => exact ⟨i + 1, by go_num, by omega, HC2, hbr⟩
        case measure => simp [RowKit.intOf]; omega
    · have i1 : ¬ (i : Int) < (s.size : Int) := by omega
      have i2 : decide ((i : Int) < (s.size : Int)) = false := decide_eq_false i1
      have hc := HC.out
      rw [List.drop_of_length_le (by rw [ba_len]; omega), List.take_of_length_le (by rw [ba_len]; omega), HZ.out] at hc
      have HE : Hid (p = s.data.toList ∧ q = [] ∧ two = false) := by
        injection hc with h1 h2
        injection h2 with h2 h3
        exact hid ⟨h1.trans (List.append_nil _), h2, h3⟩
      clear hc HC HZ
      go_wp2
      refine bodyPost_ret (v := .tuple #[.string s, .string { data := #[] }, .bool false]) (by simp [results, Tryd.results77, go_sem, *]) rfl ⟨by rw [HE.out.1, HE.out.2.1, HE.out.2.2, ba_mk], hbr⟩
theorem arr_none {b : Nat} (h65 : b ≠ 65) (h66 : b ≠ 66) (h67 : b ≠ 67) (h68 : b ≠ 68) (h72 : b ≠ 72) (h70 : b ≠ 70) : arrL b = [] := by
  unfold arrL
  have : (arrsL.find? fun p => p.1 == b) = none := by
    rw [List.find?_eq_none]
    intro p hp
    simp only [arrsL, List.mem_cons, List.not_mem_nil, or_false] at hp
    rcases hp with rfl | rfl | rfl | rfl | rfl | rfl
    all_goals (simp; omega)
  rw [this]
  rfl
theorem arrow_any (b : Nat) (w : World) : Calls Tryd.prog 54 #[.int .u8 (b : Int)] w fun e w' => e = .returned (.string ⟨(arrL b).toArray⟩) ∧ w = w' := by
  by_cases h65 : b = 65
  · subst h65
    rw [show arrL 65 = [117, 112] by kernel_rfl]
    go_enter Tryd.func54, Tryd.ntmps54
    go_wp2
    go_ret
    exact ⟨rfl, rfl⟩
  have e65 : ((b : Int) == 65) = false := beq_eq_false_iff_ne.2 (by omega)
  by_cases h66 : b = 66
  · subst h66
    rw [show arrL 66 = [100, 111, 119, 110] by kernel_rfl]
    go_enter Tryd.func54, Tryd.ntmps54
    go_wp2
    go_ret
    exact ⟨rfl, rfl⟩
  have e66 : ((b : Int) == 66) = false := beq_eq_false_iff_ne.2 (by omega)
  by_cases h67 : b = 67
  · subst h67
    rw [show arrL 67 = [114, 105, 103, 104, 116] by kernel_rfl]
    go_enter Tryd.func54, Tryd.ntmps54
    go_wp2
    go_ret
    exact ⟨rfl, rfl⟩
  have e67 : ((b : Int) == 67) = false := beq_eq_false_iff_ne.2 (by omega)
  by_cases h68 : b = 68
  · subst h68
    rw [show arrL 68 = [108, 101, 102, 116] by kernel_rfl]
    go_enter Tryd.func54, Tryd.ntmps54
    go_wp2
    go_ret
    exact ⟨rfl, rfl⟩
  have e68 : ((b : Int) == 68) = false := beq_eq_false_iff_ne.2 (by omega)
  by_cases h72 : b = 72
  · subst h72
    rw [show arrL 72 = [104, 111, 109, 101] by kernel_rfl]
    go_enter Tryd.func54, Tryd.ntmps54
    go_wp2
    go_ret
    exact ⟨rfl, rfl⟩
  have e72 : ((b : Int) == 72) = false := beq_eq_false_iff_ne.2 (by omega)
  by_cases h70 : b = 70
  · subst h70
    rw [show arrL 70 = [101, 110, 100] by kernel_rfl]
    go_enter Tryd.func54, Tryd.ntmps54
    go_wp2
    go_ret
    exact ⟨rfl, rfl⟩
  have e70 : ((b : Int) == 70) = false := beq_eq_false_iff_ne.2 (by omega)
  rw [arr_none h65 h66 h67 h68 h72 h70]
  go_enter Tryd.func54, Tryd.ntmps54
  go_wp2
  go_ret
  exact ⟨rfl, rfl⟩
def numK : List By := numsL.map (·.1)
def numN : List By := numsL.map (·.2)
theorem numK_cells : (#[.string { data := #[49] }, .string { data := #[50] }, .string { data := #[51] }, .string { data := #[52] }, .string { data := #[53] }, .string { data := #[54] }, .string { data := #[49, 49] }, .string { data := #[49, 50] }, .string { data := #[49, 51] }, .string { data := #[49, 52] }, .string { data := #[49, 53] }, .string { data := #[49, 55] }, .string { data := #[49, 56] }, .string { data := #[49, 57] }, .string { data := #[50, 48] }, .string { data := #[50, 49] }, .string { data := #[50, 51] }, .string { data := #[50, 52] }] : Array Value) = (strs numK).toArray := by rfl
theorem numN_cells : (#[.string { data := #[104, 111, 109, 101] }, .string { data := #[105, 110, 115, 101, 114, 116] }, .string { data := #[100, 101, 108, 101, 116, 101] }, .string { data := #[101, 110, 100] }, .string { data := #[112, 97, 103, 101, 117, 112] }, .string { data := #[112, 97, 103, 101, 100, 111, 119, 110] }, .string { data := #[102, 49] }, .string { data := #[102, 50] }, .string { data := #[102, 51] }, .string { data := #[102, 52] }, .string { data := #[102, 53] }, .string { data := #[102, 54] }, .string { data := #[102, 55] }, .string { data := #[102, 56] }, .string { data := #[102, 57] }, .string { data := #[102, 49, 48] }, .string { data := #[102, 49, 49] }, .string { data := #[102, 49, 50] }] : Array Value) = (strs numN).toArray := by rfl
theorem numK_len : numK.length = 18 := rfl
theorem numN_len : numN.length = 18 := rfl
theorem num_here {n : By} {k : Nat} (hk : k < 18) (hb : ∀ j, (hj : j < k) → numK[j]'(by rw [numK_len]; omega) ≠ n) (h : numK[k]'hk = n) : numL n = numN[k]'hk := by
  unfold numL
  have hk' : k < numsL.length := hk
  have : (numsL.find? fun p => p.1 == n) = some numsL[k] := by
    rw [List.find?_eq_some_iff_getElem]
    refine ⟨?_, k, hk', rfl, fun j hj => ?_⟩
    · have : numK[k]'hk = numsL[k].1 := by simp [numK]
      rw [← this, h]
      simp
    · have h1 := hb j hj
      have : numK[j]'(by rw [numK_len]; omega) = numsL[j].1 := by simp [numK]
      rw [this] at h1
      simpa using h1
  rw [this]
  simp [numN]
theorem num_gone {n : By} (hb : ∀ j, (hj : j < 18) → numK[j]'hj ≠ n) : numL n = [] := by
  unfold numL
  have : (numsL.find? fun p => p.1 == n) = none := by
    rw [List.find?_eq_none]
    intro p hp
    obtain ⟨j, hj, rfl⟩ := List.mem_iff_getElem.1 hp
    have h1 := hb j hj
    have : numK[j]'hj = numsL[j].1 := by simp [numK]
    rw [this] at h1
    simpa using h1
  rw [this]
  rfl
theorem rtilde_any (n : ByteArray) (w : World) : Calls Tryd.prog 79 #[.string n] w fun e w' => e = .returned (.string ⟨(numL n.data.toList).toArray⟩) ∧ Below w.heap.size w w' := by
  obtain ⟨Z, hZ⟩ : ∃ y, numL n.data.toList = y := ⟨_, rfl⟩
  rw [hZ]
  have HZ := hid hZ
  clear hZ
  obtain ⟨W, hW⟩ : ∃ W, (w.alloc (.cells #[.string { data := #[49] }, .string { data := #[50] }, .string { data := #[51] }, .string { data := #[52] }, .string { data := #[53] }, .string { data := #[54] }, .string { data := #[49, 49] }, .string { data := #[49, 50] }, .string { data := #[49, 51] }, .string { data := #[49, 52] }, .string { data := #[49, 53] }, .string { data := #[49, 55] }, .string { data := #[49, 56] }, .string { data := #[49, 57] }, .string { data := #[50, 48] }, .string { data := #[50, 49] }, .string { data := #[50, 51] }, .string { data := #[50, 52] }] 9)).alloc (.cells #[.string { data := #[104, 111, 109, 101] }, .string { data := #[105, 110, 115, 101, 114, 116] }, .string { data := #[100, 101, 108, 101, 116, 101] }, .string { data := #[101, 110, 100] }, .string { data := #[112, 97, 103, 101, 117, 112] }, .string { data := #[112, 97, 103, 101, 100, 111, 119, 110] }, .string { data := #[102, 49] }, .string { data := #[102, 50] }, .string { data := #[102, 51] }, .string { data := #[102, 52] }, .string { data := #[102, 53] }, .string { data := #[102, 54] }, .string { data := #[102, 55] }, .string { data := #[102, 56] }, .string { data := #[102, 57] }, .string { data := #[102, 49, 48] }, .string { data := #[102, 49, 49] }, .string { data := #[102, 49, 50] }] 9) = W := ⟨_, rfl⟩
  have hB : Below w.heap.size w W := by rw [← hW]; exact ((Below.refl _ _).alloc (Nat.le_refl _) _).alloc (by simp) _
  have hA1 : W.heap[w.heap.size]? = some (.cells #[.string { data := #[49] }, .string { data := #[50] }, .string { data := #[51] }, .string { data := #[52] }, .string { data := #[53] }, .string { data := #[54] }, .string { data := #[49, 49] }, .string { data := #[49, 50] }, .string { data := #[49, 51] }, .string { data := #[49, 52] }, .string { data := #[49, 53] }, .string { data := #[49, 55] }, .string { data := #[49, 56] }, .string { data := #[49, 57] }, .string { data := #[50, 48] }, .string { data := #[50, 49] }, .string { data := #[50, 51] }, .string { data := #[50, 52] }] 9 (0, 0)) := by rw [← hW, Below.heap_alloc _ _ _ (by simp)]; exact World.alloc_heap_new _ _
  have hA2 : W.heap[w.heap.size + 1]? = some (.cells #[.string { data := #[104, 111, 109, 101] }, .string { data := #[105, 110, 115, 101, 114, 116] }, .string { data := #[100, 101, 108, 101, 116, 101] }, .string { data := #[101, 110, 100] }, .string { data := #[112, 97, 103, 101, 117, 112] }, .string { data := #[112, 97, 103, 101, 100, 111, 119, 110] }, .string { data := #[102, 49] }, .string { data := #[102, 50] }, .string { data := #[102, 51] }, .string { data := #[102, 52] }, .string { data := #[102, 53] }, .string { data := #[102, 54] }, .string { data := #[102, 55] }, .string { data := #[102, 56] }, .string { data := #[102, 57] }, .string { data := #[102, 49, 48] }, .string { data := #[102, 49, 49] }, .string { data := #[102, 49, 50] }] 9 (0, 0)) := by
    rw [← hW]
    have := World.alloc_heap_new (w.alloc (.cells #[.string { data := #[49] }, .string { data := #[50] }, .string { data := #[51] }, .string { data := #[52] }, .string { data := #[53] }, .string { data := #[54] }, .string { data := #[49, 49] }, .string { data := #[49, 50] }, .string { data := #[49, 51] }, .string { data := #[49, 52] }, .string { data := #[49, 53] }, .string { data := #[49, 55] }, .string { data := #[49, 56] }, .string { data := #[49, 57] }, .string { data := #[50, 48] }, .string { data := #[50, 49] }, .string { data := #[50, 51] }, .string { data := #[50, 52] }] 9)) (.cells #[.string { data := #[104, 111, 109, 101] }, .string { data := #[105, 110, 115, 101, 114, 116] }, .string { data := #[100, 101, 108, 101, 116, 101] }, .string { data := #[101, 110, 100] }, .string { data := #[112, 97, 103, 101, 117, 112] }, .string { data := #[112, 97, 103, 101, 100, 111, 119, 110] }, .string { data := #[102, 49] }, .string { data := #[102, 50] }, .string { data := #[102, 51] }, .string { data := #[102, 52] }, .string { data := #[102, 53] }, .string { data := #[102, 54] }, .string { data := #[102, 55] }, .string { data := #[102, 56] }, .string { data := #[102, 57] }, .string { data := #[102, 49, 48] }, .string { data := #[102, 49, 49] }, .string { data := #[102, 49, 50] }] 9)
    rw [World.size_alloc] at this
    exact this
  have HA1 := hid (At.blk hA1 numK_cells)
  have HA2 := hid (At.blk hA2 numN_cells)
  have HW := hid hW
  clear hA1 hA2 hW
  go_enter Tryd.func79, Tryd.ntmps79
  go_wp2
  rw [HW.out]
  clear HW
  go_loopw [2, 5] (fun v2 v wr => ∃ k : Nat, v = .int .i64 k ∧ k ≤ 18 ∧ Hid (∀ j, (hj : j < k) → (hj18 : j < 18) → numK[j]'hj18 ≠ n.data.toList) ∧ Below W.heap.size W wr) (fun _ v _ => 18 - (RowKit.intOf v).toNat)
  case atStart => exact ⟨0, rfl, by omega, hid (fun j hj => by omega), Below.refl _ _⟩
  case round =>
    obtain ⟨k, rfl, hk, HN, hbr⟩ := hrel
    have hsr := hbr.size
    by_cases hlt : k < 18
    · have hli : (k : Int) < 18 := by omega
      obtain ⟨g1, o1, e1, hg1, c0⟩ := (HA1.out.below hbr).st (k := k) hlt
      obtain ⟨g2, o2, e2, hg2, d0⟩ := (HA2.out.below hbr).st (k := k) hlt
      have f1 : w.heap.size = g1 ∧ 0 = o1 := by
        injection e1 with e1
        injection e1 with x y
        exact ⟨x, y⟩
      have f2 : w.heap.size + 1 = g2 ∧ 0 = o2 := by
        injection e2 with e2
        injection e2 with x y
        exact ⟨x, y⟩
      obtain ⟨rfl, rfl⟩ := f1
      obtain ⟨rfl, rfl⟩ := f2
      rw [Nat.zero_add] at c0 d0
      have hhere := num_here (n := n.data.toList) hlt (fun j hj => HN.out j hj (by omega))
      obtain ⟨x, hx⟩ : ∃ x, numK[k]'hlt = x := ⟨_, rfl⟩
      obtain ⟨y, hy⟩ : ∃ y, numN[k]'hlt = y := ⟨_, rfl⟩
      rw [hx] at c0 hhere
      rw [hy] at d0 hhere
      have HX := hid hx
      have HH := hid hhere
      clear hhere hx hy e1 e2
      by_cases he : x = n.data.toList
      · have hq : (x == n.toList) = true := by rw [ByteArray.toList_eq, he]; simp
        have hz : Z = y := by rw [← HZ.out]; exact HH.out he
        have HE := hid he
        clear he
        subst hz
        go_wp2
        go_ret
        exact ⟨rfl, hB.trans (hbr.mono hB.size)⟩
      · have hq : (x == n.toList) = false := by rw [ByteArray.toList_eq]; exact beq_eq_false_iff_ne.2 he
        have HE := hid he
        clear he
        go_wp2
        go_roundw
        case rel =>
          refine ⟨k + 1, by go_num, by omega, hid (fun j hj hj18 => ?_), hbr⟩
          by_cases hjk : j = k
          · subst hjk
            rw [HX.out]
            exact HE.out
          · exact HN.out j (by omega) hj18
        case measure => simp [RowKit.intOf]; omega
    · have hli : ¬ ((k : Int) < 18) := by omega
      have hz : Z = [] := by
        rw [← HZ.out]
        exact num_gone (fun j hj => HN.out j (by omega) hj)
      subst hz
      go_wp2
      go_ret
      exact ⟨rfl, hB.trans (hbr.mono hB.size)⟩
end Go.Proofs.YtddigbhijfpmkaaDoor
