/- Layer 25: the library's contracts at this program for the keys' texts (in the place of the keys' KeA). -/
import Derived.Test.YtcfgpmmclijonaaDoorKePlain
import Derived.Test.YtcfgpmmclijonaaDoorRuK
import Derived.Ground.NamesProg
import Derived.Shelf.Strings.OnBuilder
namespace Go.Proofs.YtcfgpmmclijonaaDoor
set_option linter.unusedVariables false
set_option linter.unusedSimpArgs false
set_option maxRecDepth 100000
open Go.RowKit Go.Shelf Go.Lib

def Tryd.laysJoin_ren : Go.Shelf.Ren := ⟨fun | 156 => 59 | 165 => 66 | 166 => 67 | 169 => 68 | 240 => 73 | 241 => 74 | 276 => 76 | 277 => 77 | n => n, fun | 31 => 94 | 9 => 9 | 3 => 3 | 4 => 4 | 0 => 0 | 20 => 20 | 72 => 103 | 76 => 107 | 70 => 100 | 37 => 101 | 75 => 106 | 127 => 114 | 164 => 123 | 5 => 5 | 80 => 109 | n => n, fun | n => n⟩
theorem Tryd.laysJoin : Go.Proofs.Lays.n156 Tryd.prog Tryd.laysJoin_ren := {
  mixed := by kernel_rfl
  f156 := Tryd.func59.trans (congrArg some (by kernel_rfl))
  f165 := Tryd.func66.trans (congrArg some (by kernel_rfl))
  f166 := Tryd.func67.trans (congrArg some (by kernel_rfl))
  f169 := Tryd.func68.trans (congrArg some (by kernel_rfl))
  f240 := Tryd.func73.trans (congrArg some (by kernel_rfl))
  f241 := Tryd.func74.trans (congrArg some (by kernel_rfl))
  f276 := Tryd.func76.trans (congrArg some (by kernel_rfl))
  f277 := Tryd.func77.trans (congrArg some (by kernel_rfl))
  t0 := Tryd.underlying0
  a0 := Tryd.isAgg0
  z0 := Tryd.sizeOf0
  v0 := Tryd.zeroValue0
  t3 := Tryd.underlying3
  a3 := Tryd.isAgg3
  z3 := Tryd.sizeOf3
  v3 := Tryd.zeroValue3
  t4 := Tryd.underlying4
  a4 := Tryd.isAgg4
  z4 := Tryd.sizeOf4
  v4 := Tryd.zeroValue4
  t9 := Tryd.underlying9
  a9 := Tryd.isAgg9
  z9 := Tryd.sizeOf9
  v9 := Tryd.zeroValue9
  t20 := Tryd.underlying20
  a20 := Tryd.isAgg20
  z20 := Tryd.sizeOf20
  v20 := Tryd.zeroValue20
  t31 := Tryd.underlying94
  a31 := Tryd.isAgg94
  z31 := Tryd.sizeOf94
  v31 := Tryd.zeroValue94
  t37 := Tryd.underlying101
  a37 := Tryd.isAgg101
  z37 := Tryd.sizeOf101
  v37 := Tryd.zeroValue101
  t70 := Tryd.underlying100
  a70 := Tryd.isAgg100
  z70 := Tryd.sizeOf100
  v70 := Tryd.zeroValue100
  t72 := Tryd.underlying103
  a72 := Tryd.isAgg103
  z72 := Tryd.sizeOf103
  v72 := Tryd.zeroValue103
  t75 := Tryd.underlying106
  a75 := Tryd.isAgg106
  z75 := Tryd.sizeOf106
  v75 := Tryd.zeroValue106
  t76 := Tryd.underlying107
  a76 := Tryd.isAgg107
  z76 := Tryd.sizeOf107
  v76 := Tryd.zeroValue107
  t127 := Tryd.underlying114
  a127 := Tryd.isAgg114
  z127 := Tryd.sizeOf114
  v127 := Tryd.zeroValue114
  t164 := Tryd.underlying123
  a164 := Tryd.isAgg123
  z164 := Tryd.sizeOf123
  v164 := Tryd.zeroValue123 }
theorem ba_len (s : ByteArray) : s.data.toList.length = s.size := by simp
theorem ba_mk (s : ByteArray) : (⟨s.data.toList.toArray⟩ : ByteArray) = s := Lib.mk_data s
theorem ba_drop (s : ByteArray) (i : Nat) : s.extract i s.size = ⟨(s.data.toList.drop i).toArray⟩ := by
  rw [Lib.extract_eq, List.take_of_length_le (by simp)]
theorem ba_take (s : ByteArray) (i : Nat) : s.extract 0 i = ⟨(s.data.toList.take i).toArray⟩ := by
  rw [Lib.extract_eq, List.drop_zero, Nat.sub_zero]
theorem ba_sub (s : ByteArray) (i j : Nat) : s.extract i j = ⟨((s.data.toList.take j).drop i).toArray⟩ := by
  rw [Lib.extract_eq, List.drop_take]

def rnG (l : By) : Nat := if l = [] then 65533 else rn l
def wdG (l : By) : Nat := if l = [] then 0 else wd l
theorem dec_any (s : ByteArray) (w : World) (hT : Tabs w) :
    Calls Tryd.prog 65 #[.string s] w fun e w' => e = .returned (.tuple #[.int .i32 (rnG s.data.toList : Int), .int .i64 (wdG s.data.toList : Int)]) ∧ Below w.heap.size w w' := by
  have q := Any.utf8_DecodeRuneInString Tryd.laysDec s w hT.1
  have e : Lib.decodeGo s = (rnG s.data.toList, wdG s.data.toList) := by
    unfold Lib.decodeGo rnG wdG
    by_cases h : s.data.toList = []
    · have h0 : s.size = 0 := by rw [← ba_len, h]; rfl
      rw [if_pos h, if_pos h, if_pos h0]
    · have h0 : s.size ≠ 0 := fun e => h (List.eq_nil_of_length_eq_zero (by rw [ba_len]; exact e))
      rw [if_neg h, if_neg h, if_neg h0, decode_drop, List.drop_zero]
      rfl
  rw [e] at q
  exact q
/-! ### bits -/
theorem and_small : ∀ a : Fin 8, ∀ m : Fin 8, bits .and .u8 (a.val : Int) (m.val : Int) = ((a.val &&& m.val : Nat) : Int) := by decide +kernel
theorem or_small : ∀ a : Fin 8, ∀ m : Fin 8, bits .or .u8 (a.val : Int) (m.val : Int) = ((a.val ||| m.val : Nat) : Int) := by decide +kernel
end Go.Proofs.YtcfgpmmclijonaaDoor
