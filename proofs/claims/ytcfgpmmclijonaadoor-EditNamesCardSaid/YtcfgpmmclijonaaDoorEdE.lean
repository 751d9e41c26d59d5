/- Layer 25: line, left (by pieces), the key 'left'. -/
import Derived.Test.YtcfgpmmclijonaaDoorEdD
import Derived.Shelf.Strings.LastIndex
import Derived.Shelf.Small.Strs
namespace Go.Proofs.YtcfgpmmclijonaaDoor
set_option linter.unusedVariables false
set_option linter.unusedSimpArgs false
set_option maxRecDepth 100000
open Go.RowKit Go.Shelf Go.Lib
set_option maxRecDepth 100000
set_option maxHeartbeats 8000000

def Tryd.laysIB_ren : Go.Shelf.Ren := ⟨fun | 137 => 45 | 217 => 54 | 266 => 61 | n => n, fun | 9 => 9 | 5 => 5 | 3 => 3 | n => n, fun | n => n⟩
theorem Tryd.laysIB : Go.Proofs.Lays.n137 Tryd.prog Tryd.laysIB_ren := {
  mixed := by kernel_rfl
  f137 := Tryd.func45.trans (congrArg some (by kernel_rfl))
  f217 := Tryd.func54.trans (congrArg some (by kernel_rfl))
  f266 := Tryd.func61.trans (congrArg some (by kernel_rfl))
  t3 := Tryd.underlying3
  a3 := Tryd.isAgg3
  z3 := Tryd.sizeOf3
  v3 := Tryd.zeroValue3
  t5 := Tryd.underlying5
  a5 := Tryd.isAgg5
  z5 := Tryd.sizeOf5
  v5 := Tryd.zeroValue5
  t9 := Tryd.underlying9
  a9 := Tryd.isAgg9
  z9 := Tryd.sizeOf9
  v9 := Tryd.zeroValue9 }
def Tryd.laysLIB_ren : Go.Shelf.Ren := ⟨fun | 149 => 44 | 222 => 53 | n => n, fun | 9 => 9 | 5 => 5 | 3 => 3 | 4 => 4 | n => n, fun | n => n⟩
theorem Tryd.laysLIB : Go.Proofs.Lays.n149 Tryd.prog Tryd.laysLIB_ren := {
  mixed := by kernel_rfl
  f149 := Tryd.func44.trans (congrArg some (by kernel_rfl))
  f222 := Tryd.func53.trans (congrArg some (by kernel_rfl))
  t3 := Tryd.underlying3
  a3 := Tryd.isAgg3
  z3 := Tryd.sizeOf3
  v3 := Tryd.zeroValue3
  t4 := Tryd.underlying4
  a4 := Tryd.isAgg4
  z4 := Tryd.sizeOf4
  v4 := Tryd.zeroValue4
  t5 := Tryd.underlying5
  a5 := Tryd.isAgg5
  z5 := Tryd.sizeOf5
  v5 := Tryd.zeroValue5
  t9 := Tryd.underlying9
  a9 := Tryd.isAgg9
  z9 := Tryd.sizeOf9
  v9 := Tryd.zeroValue9 }

theorem ib_in : ∀ (l : By) (c : UInt8), -1 ≤ Lib.indexByte l c ∧ Lib.indexByte l c < (l.length : Int)
  | [], c => by
    unfold Lib.indexByte
    simp
  | b :: t, c => by
    have := ib_in t c
    unfold Lib.indexByte
    simp only [List.length_cons]
    split
    · omega
    · split
      · omega
      · omega
theorem li_in (s : ByteArray) (c : Int) : -1 ≤ Lib.lastIndexByte s c ∧ Lib.lastIndexByte s c < (s.size : Int) := by
  unfold Lib.lastIndexByte
  rcases Lib.lastIdx_spec s c s.size with ⟨h, _⟩ | ⟨i, hi, h, _⟩
  · rw [h]
    omega
  · rw [h]
    omega
theorem lib_any (s : ByteArray) (hs : s.size < 4611686018427387904) (w : World) : Calls Tryd.prog 44 #[.string s, .int .u8 10] w fun e w' => e = .returned (.int .i64 (Lib.lastIndexByte s 10)) ∧ w' = w := Any.strings_LastIndexByte Tryd.laysLIB s 10 hs w
theorem ib_any (s : ByteArray) (w : World) : Calls Tryd.prog 45 #[.string s, .int .u8 10] w fun e w' => e = .returned (.int .i64 (Lib.indexByte s.data.toList 10)) ∧ w' = w := Any.strings_IndexByte Tryd.laysIB s 10 w
def lineA (s : ByteArray) (a : Nat) : Int := Lib.lastIndexByte (s.extract 0 a) 10 + 1
def lineB (s : ByteArray) (a : Nat) : Int := if 0 ≤ Lib.indexByte (s.extract a s.size).data.toList 10 then (a : Int) + Lib.indexByte (s.extract a s.size).data.toList 10 else (s.size : Int)
theorem line_any (s : ByteArray) (a : Nat) (w : World) (hs : s.size ≤ 4000000) (ha : a ≤ s.size) : Calls Tryd.prog 31 #[.string s, .int .i64 (a : Int)] w fun e w' => e = .returned (.tuple #[.int .i64 (lineA s a), .int .i64 (lineB s a)]) ∧ Below w.heap.size w w' := by
  have z1 : (s.extract 0 a).size = a := by rw [ByteArray.size_extract]; omega
  have z2 : (s.extract a s.size).size = s.size - a := by rw [ByteArray.size_extract]; omega
  have C1 := fun w1 => lib_any (s.extract 0 a) (by omega) w1
  have C2 := fun w1 => ib_any (s.extract a s.size) w1
  have b1 := li_in (s.extract 0 a) 10
  have b2 := ib_in (s.extract a s.size).data.toList 10
  rw [ba_len, z2] at b2
  rw [z1] at b1
  unfold lineA lineB
  obtain ⟨A, hA⟩ : ∃ A, Lib.lastIndexByte (s.extract 0 a) 10 = A := ⟨_, rfl⟩
  obtain ⟨B, hB⟩ : ∃ B, Lib.indexByte (s.extract a s.size).data.toList 10 = B := ⟨_, rfl⟩
  rw [hA] at C1 b1 ⊢
  rw [hB] at C2 b2 ⊢
  have ha2 : (a : Int) ≤ (s.size : Int) := by omega
  clear z1 z2 hA hB
  obtain ⟨b3, b4⟩ := b1
  obtain ⟨b5, b6⟩ := b2
  by_cases h : 0 ≤ B
  · have h1 : decide (0 ≤ B) = true := decide_eq_true h
    rw [if_pos h]
    go_enter Tryd.func31, Tryd.ntmps31
    go_wp2_with fail
    with_reducible refine (C1 _).mono ?_
    rintro e w1 ⟨rfl, rfl⟩
    go_wp2_with fail
    with_reducible refine (C2 _).mono ?_
    rintro e w2 ⟨rfl, rfl⟩
    go_wp2
    exact bodyPost_ret (by simp [results, Tryd.results31, go_sem, *]) rfl ⟨rfl, Below.refl _ _⟩
  · have h1 : decide (0 ≤ B) = false := decide_eq_false h
    rw [if_neg h]
    go_enter Tryd.func31, Tryd.ntmps31
    go_wp2_with fail
    with_reducible refine (C1 _).mono ?_
    rintro e w1 ⟨rfl, rfl⟩
    go_wp2_with fail
    with_reducible refine (C2 _).mono ?_
    rintro e w2 ⟨rfl, rfl⟩
    go_wp2
    exact bodyPost_ret (by simp [results, Tryd.results31, go_sem, *]) rfl ⟨rfl, Below.refl _ _⟩
def leftE (l : By) (a : Nat) : Nat := if (backE (pcs l) (a : Int)).2 then (backE (pcs l) (a : Int)).1 else a
theorem left_any (s : ByteArray) (a : Nat) (w : World) (hs : s.size ≤ 4000000) (ha : a ≤ s.size) : Calls Tryd.prog 39 #[.string s, .int .i64 (a : Int), .bool false] w fun e w' => e = .returned (.int .i64 (leftE s.data.toList a : Int)) ∧ Below w.heap.size w w' := by
  have C := small (Back_any s (a : Int) (by omega) (by omega) w (by omega)) hs
  unfold leftE
  obtain ⟨⟨kk, is⟩, he⟩ : ∃ z, backE (pcs s.data.toList) (a : Int) = z := ⟨_, rfl⟩
  rw [he] at C ⊢
  unfold ansV at C
  simp only at C ⊢
  cases is with
  | true =>
    rw [if_pos rfl]
    go_enter Tryd.func39, Tryd.ntmps39
    go_wp2_with fail
    with_reducible refine C.mono ?_
    rintro e w1 ⟨rfl, hb1⟩
    go_wp2
    go_ret
    exact ⟨rfl, hb1⟩
  | false =>
    rw [if_neg (by decide)]
    go_enter Tryd.func39, Tryd.ntmps39
    go_wp2_with fail
    with_reducible refine C.mono ?_
    rintro e w1 ⟨rfl, hb1⟩
    go_wp2
    go_ret
    exact ⟨rfl, hb1⟩
end Go.Proofs.YtcfgpmmclijonaaDoor
