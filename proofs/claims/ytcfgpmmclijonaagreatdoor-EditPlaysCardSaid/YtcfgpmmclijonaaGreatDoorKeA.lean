/- Layer 25: the library's contracts at this program for the keys' texts (in the place of the keys' KeA). -/
import Derived.Test.YtcfgpmmclijonaaGreatDoorKePlain
import Derived.Test.YtcfgpmmclijonaaGreatDoorRuK
import Derived.Ground.NamesProg
import Derived.Shelf.Strings.OnBuilder
namespace Go.Proofs.YtcfgpmmclijonaaGreatDoor
set_option linter.unusedVariables false
set_option linter.unusedSimpArgs false
set_option maxRecDepth 100000
open Go.RowKit Go.Shelf Go.Lib

def Tryz.laysJoin_ren : Go.Shelf.Ren := ⟨fun | 156 => 68 | 165 => 85 | 166 => 86 | 169 => 87 | 240 => 103 | 241 => 104 | 276 => 107 | 277 => 108 | n => n, fun | 31 => 93 | 9 => 9 | 3 => 3 | 4 => 4 | 0 => 0 | 20 => 20 | 72 => 110 | 76 => 114 | 70 => 107 | 37 => 108 | 75 => 113 | 127 => 132 | 164 => 141 | 5 => 5 | 80 => 116 | n => n, fun | n => n⟩
theorem Tryz.laysJoin : Go.Proofs.Lays.n156 Tryz.prog Tryz.laysJoin_ren := {
  mixed := by kernel_rfl
  f156 := Tryz.func68.trans (congrArg some (by kernel_rfl))
  f165 := Tryz.func85.trans (congrArg some (by kernel_rfl))
  f166 := Tryz.func86.trans (congrArg some (by kernel_rfl))
  f169 := Tryz.func87.trans (congrArg some (by kernel_rfl))
  f240 := Tryz.func103.trans (congrArg some (by kernel_rfl))
  f241 := Tryz.func104.trans (congrArg some (by kernel_rfl))
  f276 := Tryz.func107.trans (congrArg some (by kernel_rfl))
  f277 := Tryz.func108.trans (congrArg some (by kernel_rfl))
  t0 := Tryz.underlying0
  a0 := Tryz.isAgg0
  z0 := Tryz.sizeOf0
  v0 := Tryz.zeroValue0
  t3 := Tryz.underlying3
  a3 := Tryz.isAgg3
  z3 := Tryz.sizeOf3
  v3 := Tryz.zeroValue3
  t4 := Tryz.underlying4
  a4 := Tryz.isAgg4
  z4 := Tryz.sizeOf4
  v4 := Tryz.zeroValue4
  t9 := Tryz.underlying9
  a9 := Tryz.isAgg9
  z9 := Tryz.sizeOf9
  v9 := Tryz.zeroValue9
  t20 := Tryz.underlying20
  a20 := Tryz.isAgg20
  z20 := Tryz.sizeOf20
  v20 := Tryz.zeroValue20
  t31 := Tryz.underlying93
  a31 := Tryz.isAgg93
  z31 := Tryz.sizeOf93
  v31 := Tryz.zeroValue93
  t37 := Tryz.underlying108
  a37 := Tryz.isAgg108
  z37 := Tryz.sizeOf108
  v37 := Tryz.zeroValue108
  t70 := Tryz.underlying107
  a70 := Tryz.isAgg107
  z70 := Tryz.sizeOf107
  v70 := Tryz.zeroValue107
  t72 := Tryz.underlying110
  a72 := Tryz.isAgg110
  z72 := Tryz.sizeOf110
  v72 := Tryz.zeroValue110
  t75 := Tryz.underlying113
  a75 := Tryz.isAgg113
  z75 := Tryz.sizeOf113
  v75 := Tryz.zeroValue113
  t76 := Tryz.underlying114
  a76 := Tryz.isAgg114
  z76 := Tryz.sizeOf114
  v76 := Tryz.zeroValue114
  t127 := Tryz.underlying132
  a127 := Tryz.isAgg132
  z127 := Tryz.sizeOf132
  v127 := Tryz.zeroValue132
  t164 := Tryz.underlying141
  a164 := Tryz.isAgg141
  z164 := Tryz.sizeOf141
  v164 := Tryz.zeroValue141 }
theorem ba_len (s : ByteArray) : s.data.toList.length = s.size := by simp
theorem ba_mk (s : ByteArray) : (⟨s.data.toList.toArray⟩ : ByteArray) = s := Lib.mk_data s
theorem ba_drop (s : ByteArray) (i : Nat) : s.extract i s.size = ⟨(s.data.toList.drop i).toArray⟩ := by
  rw [Lib.extract_eq, List.take_of_length_le (by simp)]
theorem ba_take (s : ByteArray) (i : Nat) : s.extract 0 i = ⟨(s.data.toList.take i).toArray⟩ := by
  rw [Lib.extract_eq, List.drop_zero, Nat.sub_zero]
theorem ba_sub (s : ByteArray) (i j : Nat) : s.extract i j = ⟨((s.data.toList.take j).drop i).toArray⟩ := by
  rw [Lib.extract_eq, List.drop_take]

def rnG (l : By) : Nat := if l = [] then 65533 else rn l
def wdG (l : By) : Nat := if l = [] then 0 else wd l
theorem dec_any (s : ByteArray) (w : World) (hT : Tabs w) :
    Calls Tryz.prog 71 #[.string s] w fun e w' => e = .returned (.tuple #[.int .i32 (rnG s.data.toList : Int), .int .i64 (wdG s.data.toList : Int)]) ∧ Below w.heap.size w w' := by
  have q := Any.utf8_DecodeRuneInString Tryz.laysDec s w hT.1
  have e : Lib.decodeGo s = (rnG s.data.toList, wdG s.data.toList) := by
    unfold Lib.decodeGo rnG wdG
    by_cases h : s.data.toList = []
    · have h0 : s.size = 0 := by rw [← ba_len, h]; rfl
      rw [if_pos h, if_pos h, if_pos h0]
    · have h0 : s.size ≠ 0 := fun e => h (List.eq_nil_of_length_eq_zero (by rw [ba_len]; exact e))
      rw [if_neg h, if_neg h, if_neg h0, decode_drop, List.drop_zero]
      rfl
  rw [e] at q
  exact q
/-! ### bits -/
theorem and_small : ∀ a : Fin 8, ∀ m : Fin 8, bits .and .u8 (a.val : Int) (m.val : Int) = ((a.val &&& m.val : Nat) : Int) := by decide +kernel
theorem or_small : ∀ a : Fin 8, ∀ m : Fin 8, bits .or .u8 (a.val : Int) (m.val : Int) = ((a.val ||| m.val : Nat) : Int) := by decide +kernel
end Go.Proofs.YtcfgpmmclijonaaGreatDoor
