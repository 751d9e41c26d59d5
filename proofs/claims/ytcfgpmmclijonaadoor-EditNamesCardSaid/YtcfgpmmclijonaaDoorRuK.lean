/- Layer 3: the library's tables and contracts at this program; the first broken byte, kinds: both sides. -/
import Derived.Test.YtcfgpmmclijonaaDoorRuI2
import Derived.Ground.NamesProg
import Derived.Shelf.Unicode.DecodeAny
import Derived.Shelf.Unicode.ValidAny
import Derived.Shelf.Unicode.PredsPay
namespace Go.Proofs.YtcfgpmmclijonaaDoor
set_option linter.unusedVariables false
set_option linter.unusedSimpArgs false
set_option maxRecDepth 100000
open Go.RowKit Go.Shelf Go.Lib

def Tryd.laysDec_ren : Go.Shelf.Ren := ⟨fun | 197 => 65 | 260 => 72 | n => n, fun | 9 => 9 | 21 => 21 | 3 => 3 | 4 => 4 | 5 => 5 | 105 => 98 | 119 => 116 | 0 => 0 | 46 => 119 | 139 => 122 | 138 => 121 | n => n, fun | 3 => 4 | 4 => 5 | n => n⟩
theorem Tryd.laysDec : Go.Proofs.Lays.n197 Tryd.prog Tryd.laysDec_ren := {
  mixed := by kernel_rfl
  f197 := Tryd.func65.trans (congrArg some (by kernel_rfl))
  f260 := Tryd.func72.trans (congrArg some (by kernel_rfl))
  t0 := Tryd.underlying0
  a0 := Tryd.isAgg0
  z0 := Tryd.sizeOf0
  v0 := Tryd.zeroValue0
  t3 := Tryd.underlying3
  a3 := Tryd.isAgg3
  z3 := Tryd.sizeOf3
  v3 := Tryd.zeroValue3
  t4 := Tryd.underlying4
  a4 := Tryd.isAgg4
  z4 := Tryd.sizeOf4
  v4 := Tryd.zeroValue4
  t5 := Tryd.underlying5
  a5 := Tryd.isAgg5
  z5 := Tryd.sizeOf5
  v5 := Tryd.zeroValue5
  t9 := Tryd.underlying9
  a9 := Tryd.isAgg9
  z9 := Tryd.sizeOf9
  v9 := Tryd.zeroValue9
  t21 := Tryd.underlying21
  a21 := Tryd.isAgg21
  z21 := Tryd.sizeOf21
  v21 := Tryd.zeroValue21
  t46 := Tryd.underlying119
  a46 := Tryd.isAgg119
  z46 := Tryd.sizeOf119
  v46 := Tryd.zeroValue119
  t105 := Tryd.underlying98
  a105 := Tryd.isAgg98
  z105 := Tryd.sizeOf98
  v105 := Tryd.zeroValue98
  t119 := Tryd.underlying116
  a119 := Tryd.isAgg116
  z119 := Tryd.sizeOf116
  t138 := Tryd.underlying121
  a138 := Tryd.isAgg121
  z138 := Tryd.sizeOf121
  v138 := Tryd.zeroValue121
  t139 := Tryd.underlying122
  a139 := Tryd.isAgg122
  z139 := Tryd.sizeOf122
  v139 := Tryd.zeroValue122
  g3 := by kernel_rfl
  g4 := by kernel_rfl }
def Tryd.laysLetter_ren : Go.Shelf.Ren := ⟨fun | 200 => 69 | 261 => 75 | 311 => 78 | 312 => 79 | n => n, fun | 21 => 21 | 4 => 4 | 51 => 115 | 5 => 5 | 119 => 116 | 0 => 0 | 141 => 118 | 196 => 129 | 193 => 126 | 3 => 3 | 198 => 132 | 49 => 130 | 194 => 127 | 201 => 135 | 226 => 137 | 46 => 119 | 227 => 138 | n => n, fun | 7 => 1 | 8 => 2 | n => n⟩
theorem Tryd.laysLetter : Go.Proofs.Lays.n200 Tryd.prog Tryd.laysLetter_ren := {
  mixed := by kernel_rfl
  f200 := Tryd.func69.trans (congrArg some (by kernel_rfl))
  f261 := Tryd.func75.trans (congrArg some (by kernel_rfl))
  f311 := Tryd.func78.trans (congrArg some (by kernel_rfl))
  f312 := Tryd.func79.trans (congrArg some (by kernel_rfl))
  t0 := Tryd.underlying0
  a0 := Tryd.isAgg0
  z0 := Tryd.sizeOf0
  v0 := Tryd.zeroValue0
  t3 := Tryd.underlying3
  a3 := Tryd.isAgg3
  z3 := Tryd.sizeOf3
  v3 := Tryd.zeroValue3
  t4 := Tryd.underlying4
  a4 := Tryd.isAgg4
  z4 := Tryd.sizeOf4
  v4 := Tryd.zeroValue4
  t5 := Tryd.underlying5
  a5 := Tryd.isAgg5
  z5 := Tryd.sizeOf5
  v5 := Tryd.zeroValue5
  t21 := Tryd.underlying21
  a21 := Tryd.isAgg21
  z21 := Tryd.sizeOf21
  v21 := Tryd.zeroValue21
  t46 := Tryd.underlying119
  a46 := Tryd.isAgg119
  z46 := Tryd.sizeOf119
  v46 := Tryd.zeroValue119
  t49 := Tryd.underlying130
  a49 := Tryd.isAgg130
  z49 := Tryd.sizeOf130
  v49 := Tryd.zeroValue130
  t51 := Tryd.underlying115
  a51 := Tryd.isAgg115
  z51 := Tryd.sizeOf115
  v51 := Tryd.zeroValue115
  t119 := Tryd.underlying116
  a119 := Tryd.isAgg116
  z119 := Tryd.sizeOf116
  t141 := Tryd.underlying118
  a141 := Tryd.isAgg118
  z141 := Tryd.sizeOf118
  v141 := Tryd.zeroValue118
  t193 := Tryd.underlying126
  a193 := Tryd.isAgg126
  z193 := Tryd.sizeOf126
  v193 := Tryd.zeroValue126
  t194 := Tryd.underlying127
  a194 := Tryd.isAgg127
  z194 := Tryd.sizeOf127
  v194 := Tryd.zeroValue127
  t196 := Tryd.underlying129
  a196 := Tryd.isAgg129
  z196 := Tryd.sizeOf129
  v196 := Tryd.zeroValue129
  t198 := Tryd.underlying132
  a198 := Tryd.isAgg132
  z198 := Tryd.sizeOf132
  v198 := Tryd.zeroValue132
  t201 := Tryd.underlying135
  a201 := Tryd.isAgg135
  z201 := Tryd.sizeOf135
  v201 := Tryd.zeroValue135
  t226 := Tryd.underlying137
  a226 := Tryd.isAgg137
  z226 := Tryd.sizeOf137
  v226 := Tryd.zeroValue137
  t227 := Tryd.underlying138
  a227 := Tryd.isAgg138
  z227 := Tryd.sizeOf138
  v227 := Tryd.zeroValue138
  g7 := by kernel_rfl
  g8 := by kernel_rfl }
def Tryd.laysDigit_ren : Go.Shelf.Ren := ⟨fun | 198 => 70 | 261 => 75 | 311 => 78 | 312 => 79 | n => n, fun | 21 => 21 | 4 => 4 | 141 => 118 | 0 => 0 | 196 => 129 | 193 => 126 | 3 => 3 | 51 => 115 | 198 => 132 | 49 => 130 | 194 => 127 | 201 => 135 | 226 => 137 | 46 => 119 | 227 => 138 | n => n, fun | 5 => 3 | n => n⟩
theorem Tryd.laysDigit : Go.Proofs.Lays.n198 Tryd.prog Tryd.laysDigit_ren := {
  mixed := by kernel_rfl
  f198 := Tryd.func70.trans (congrArg some (by kernel_rfl))
  f261 := Tryd.func75.trans (congrArg some (by kernel_rfl))
  f311 := Tryd.func78.trans (congrArg some (by kernel_rfl))
  f312 := Tryd.func79.trans (congrArg some (by kernel_rfl))
  t0 := Tryd.underlying0
  a0 := Tryd.isAgg0
  z0 := Tryd.sizeOf0
  v0 := Tryd.zeroValue0
  t3 := Tryd.underlying3
  a3 := Tryd.isAgg3
  z3 := Tryd.sizeOf3
  v3 := Tryd.zeroValue3
  t4 := Tryd.underlying4
  a4 := Tryd.isAgg4
  z4 := Tryd.sizeOf4
  v4 := Tryd.zeroValue4
  t21 := Tryd.underlying21
  a21 := Tryd.isAgg21
  z21 := Tryd.sizeOf21
  v21 := Tryd.zeroValue21
  t46 := Tryd.underlying119
  a46 := Tryd.isAgg119
  z46 := Tryd.sizeOf119
  v46 := Tryd.zeroValue119
  t49 := Tryd.underlying130
  a49 := Tryd.isAgg130
  z49 := Tryd.sizeOf130
  v49 := Tryd.zeroValue130
  t51 := Tryd.underlying115
  a51 := Tryd.isAgg115
  z51 := Tryd.sizeOf115
  v51 := Tryd.zeroValue115
  t141 := Tryd.underlying118
  a141 := Tryd.isAgg118
  z141 := Tryd.sizeOf118
  v141 := Tryd.zeroValue118
  t193 := Tryd.underlying126
  a193 := Tryd.isAgg126
  z193 := Tryd.sizeOf126
  v193 := Tryd.zeroValue126
  t194 := Tryd.underlying127
  a194 := Tryd.isAgg127
  z194 := Tryd.sizeOf127
  v194 := Tryd.zeroValue127
  t196 := Tryd.underlying129
  a196 := Tryd.isAgg129
  z196 := Tryd.sizeOf129
  v196 := Tryd.zeroValue129
  t198 := Tryd.underlying132
  a198 := Tryd.isAgg132
  z198 := Tryd.sizeOf132
  v198 := Tryd.zeroValue132
  t201 := Tryd.underlying135
  a201 := Tryd.isAgg135
  z201 := Tryd.sizeOf135
  v201 := Tryd.zeroValue135
  t226 := Tryd.underlying137
  a226 := Tryd.isAgg137
  z226 := Tryd.sizeOf137
  v226 := Tryd.zeroValue137
  t227 := Tryd.underlying138
  a227 := Tryd.isAgg138
  z227 := Tryd.sizeOf138
  v227 := Tryd.zeroValue138
  g5 := by kernel_rfl }

theorem gprop : Tryd.prog.globalNamed "unicode.properties" = some (Tryd.laysLetter_ren.g 7) := by kernel_rfl
/-- What the library's variables hold. -/
def Tabs (w : World) : Prop := Lib.Utf8Tabs (Tryd.laysDec_ren.g 3) (Tryd.laysDec_ren.g 4) w ∧ Lib.TabIs Tryd.prog w "unicode.properties" .u8 Lib.propertiesTab ∧ RVar (Tryd.laysLetter_ren.g 8) letterT w ∧ RVar (Tryd.laysDigit_ren.g 5) digitT w
theorem tabs_on {w w' : World} (h : Tabs w) (hb : Below w.heap.size w w') : Tabs w' :=
  ⟨Utf8Tabs_below h.1 hb, TabIs_below gprop h.2.1 hb, RVar_below h.2.2.1 hb, RVar_below h.2.2.2 hb⟩
def isLet (r : Int) : Bool := if latin1 r then isLetterL r else exclGo letterT r
def isDig (r : Int) : Bool := if r ≤ 255 then isDigitL r else exclGo digitT r
theorem letter_any (r : Int) (w : World) (hT : Tabs w) (h0 : -2147483648 ≤ r) (h1 : r ≤ 2147483647) : Calls Tryd.prog 69 #[.int .i32 r] w fun e w' => e = .returned (.bool (isLet r)) ∧ Below w.heap.size w w' :=
  Any.unicode_IsLetter_any Tryd.laysLetter gprop letterT r w h0 h1 hT.2.1 hT.2.2.1 letterT_ok
theorem digit_any (r : Int) (w : World) (hT : Tabs w) (h0 : -2147483648 ≤ r) (h1 : r ≤ 2147483647) : Calls Tryd.prog 70 #[.int .i32 r] w fun e w' => e = .returned (.bool (isDig r)) ∧ Below w.heap.size w w' :=
  Any.unicode_IsDigit_any Tryd.laysDigit digitT r w h0 h1 hT.2.2.2 digitT_ok
theorem dec_ru (s : ByteArray) (i : Nat) (hi : i < s.size) (w : World) (hT : Tabs w) :
    Calls Tryd.prog 65 #[.string (s.extract i s.size)] w fun e w' => e = .returned (.tuple #[.int .i32 (rn (lft s.data.toList i) : Int), .int .i64 (wd (lft s.data.toList i) : Int)]) ∧ Below w.heap.size w w' := by
  have hz : (s.extract i s.size).size ≠ 0 := by simp; omega
  have hd : (s.extract i s.size).data.toList = lft s.data.toList i := by
    simp only [lft, ByteArray.data_extract, Array.toList_extract]
    rw [List.extract_eq_take_drop]
    rw [List.take_of_length_le (by simp)]
  have q := Any.utf8_DecodeRuneInString Tryd.laysDec (s.extract i s.size) w hT.1
  have e : Lib.decodeGo (s.extract i s.size) = decodeL (lft s.data.toList i) := by
    unfold Lib.decodeGo
    rw [if_neg hz, decode_drop, hd]
    rfl
  rw [e] at q
  exact q

/-! ### the first broken byte -/
def brkAt : Nat → List (Nat × Nat) → Int
  | _, [] => -1
  | o, (n, r) :: xs => if r = 65533 ∧ n = 1 then (o : Int) else brkAt (o + n) xs
def atE (l : By) : Int := brkAt 0 (rs l)
theorem at_step {s : By} {i : Nat} (hi : i < s.length) : brkAt i (rs (lft s i)) = if rn (lft s i) = 65533 ∧ wd (lft s i) = 1 then (i : Int) else brkAt (i + wd (lft s i)) (rs (lft s (i + wd (lft s i)))) := by
  rw [rs_lft hi]
  rfl
theorem at_end (s : By) : brkAt s.length (rs (lft s s.length)) = -1 := by
  have : lft s s.length = [] := by simp [lft]
  rw [this, rs_nil]
  rfl
set_option maxHeartbeats 4000000
set_option maxRecDepth 100000
end Go.Proofs.YtcfgpmmclijonaaDoor
