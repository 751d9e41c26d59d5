/- Layer 3: the library's tables and contracts at this program; the first broken byte, kinds: both sides. -/
import Derived.Test.YtcfgpmmclijonaaGreatDoorRuI2
import Derived.Ground.NamesProg
import Derived.Shelf.Unicode.DecodeAny
import Derived.Shelf.Unicode.ValidAny
import Derived.Shelf.Unicode.PredsPay
namespace Go.Proofs.YtcfgpmmclijonaaGreatDoor
set_option linter.unusedVariables false
set_option linter.unusedSimpArgs false
set_option maxRecDepth 100000
open Go.RowKit Go.Shelf Go.Lib

def Tryz.laysDec_ren : Go.Shelf.Ren := ⟨fun | 197 => 71 | 260 => 90 | n => n, fun | 9 => 9 | 21 => 21 | 3 => 3 | 4 => 4 | 5 => 5 | 105 => 97 | 119 => 118 | 0 => 0 | 46 => 122 | 139 => 121 | 138 => 120 | n => n, fun | 3 => 0 | 4 => 1 | n => n⟩
theorem Tryz.laysDec : Go.Proofs.Lays.n197 Tryz.prog Tryz.laysDec_ren := {
  mixed := by kernel_rfl
  f197 := Tryz.func71.trans (congrArg some (by kernel_rfl))
  f260 := Tryz.func90.trans (congrArg some (by kernel_rfl))
  t0 := Tryz.underlying0
  a0 := Tryz.isAgg0
  z0 := Tryz.sizeOf0
  v0 := Tryz.zeroValue0
  t3 := Tryz.underlying3
  a3 := Tryz.isAgg3
  z3 := Tryz.sizeOf3
  v3 := Tryz.zeroValue3
  t4 := Tryz.underlying4
  a4 := Tryz.isAgg4
  z4 := Tryz.sizeOf4
  v4 := Tryz.zeroValue4
  t5 := Tryz.underlying5
  a5 := Tryz.isAgg5
  z5 := Tryz.sizeOf5
  v5 := Tryz.zeroValue5
  t9 := Tryz.underlying9
  a9 := Tryz.isAgg9
  z9 := Tryz.sizeOf9
  v9 := Tryz.zeroValue9
  t21 := Tryz.underlying21
  a21 := Tryz.isAgg21
  z21 := Tryz.sizeOf21
  v21 := Tryz.zeroValue21
  t46 := Tryz.underlying122
  a46 := Tryz.isAgg122
  z46 := Tryz.sizeOf122
  v46 := Tryz.zeroValue122
  t105 := Tryz.underlying97
  a105 := Tryz.isAgg97
  z105 := Tryz.sizeOf97
  v105 := Tryz.zeroValue97
  t119 := Tryz.underlying118
  a119 := Tryz.isAgg118
  z119 := Tryz.sizeOf118
  t138 := Tryz.underlying120
  a138 := Tryz.isAgg120
  z138 := Tryz.sizeOf120
  v138 := Tryz.zeroValue120
  t139 := Tryz.underlying121
  a139 := Tryz.isAgg121
  z139 := Tryz.sizeOf121
  v139 := Tryz.zeroValue121
  g3 := by kernel_rfl
  g4 := by kernel_rfl }
def Tryz.laysValid_ren : Go.Shelf.Ren := ⟨fun | 196 => 72 | 259 => 91 | n => n, fun | 9 => 9 | 4 => 4 | 3 => 3 | 5 => 5 | 12 => 12 | 119 => 118 | 0 => 0 | 46 => 122 | 139 => 121 | 138 => 120 | 53 => 136 | n => n, fun | 3 => 0 | 4 => 1 | n => n⟩
theorem Tryz.laysValid : Go.Proofs.Lays.n196 Tryz.prog Tryz.laysValid_ren := {
  mixed := by kernel_rfl
  f196 := Tryz.func72.trans (congrArg some (by kernel_rfl))
  f259 := Tryz.func91.trans (congrArg some (by kernel_rfl))
  t0 := Tryz.underlying0
  a0 := Tryz.isAgg0
  z0 := Tryz.sizeOf0
  v0 := Tryz.zeroValue0
  t3 := Tryz.underlying3
  a3 := Tryz.isAgg3
  z3 := Tryz.sizeOf3
  v3 := Tryz.zeroValue3
  t4 := Tryz.underlying4
  a4 := Tryz.isAgg4
  z4 := Tryz.sizeOf4
  v4 := Tryz.zeroValue4
  t5 := Tryz.underlying5
  a5 := Tryz.isAgg5
  z5 := Tryz.sizeOf5
  v5 := Tryz.zeroValue5
  t9 := Tryz.underlying9
  a9 := Tryz.isAgg9
  z9 := Tryz.sizeOf9
  v9 := Tryz.zeroValue9
  t12 := Tryz.underlying12
  a12 := Tryz.isAgg12
  z12 := Tryz.sizeOf12
  v12 := Tryz.zeroValue12
  t46 := Tryz.underlying122
  a46 := Tryz.isAgg122
  z46 := Tryz.sizeOf122
  v46 := Tryz.zeroValue122
  t53 := Tryz.underlying136
  a53 := Tryz.isAgg136
  z53 := Tryz.sizeOf136
  v53 := Tryz.zeroValue136
  t119 := Tryz.underlying118
  a119 := Tryz.isAgg118
  z119 := Tryz.sizeOf118
  t138 := Tryz.underlying120
  a138 := Tryz.isAgg120
  z138 := Tryz.sizeOf120
  v138 := Tryz.zeroValue120
  t139 := Tryz.underlying121
  a139 := Tryz.isAgg121
  z139 := Tryz.sizeOf121
  v139 := Tryz.zeroValue121
  g3 := by kernel_rfl
  g4 := by kernel_rfl }
def Tryz.laysLetter_ren : Go.Shelf.Ren := ⟨fun | 200 => 88 | 261 => 105 | 311 => 109 | 312 => 110 | n => n, fun | 21 => 21 | 4 => 4 | 51 => 133 | 5 => 5 | 119 => 118 | 0 => 0 | 141 => 135 | 196 => 147 | 193 => 144 | 3 => 3 | 198 => 150 | 49 => 148 | 194 => 145 | 201 => 153 | 226 => 155 | 46 => 122 | 227 => 156 | n => n, fun | 7 => 3 | 8 => 4 | n => n⟩
theorem Tryz.laysLetter : Go.Proofs.Lays.n200 Tryz.prog Tryz.laysLetter_ren := {
  mixed := by kernel_rfl
  f200 := Tryz.func88.trans (congrArg some (by kernel_rfl))
  f261 := Tryz.func105.trans (congrArg some (by kernel_rfl))
  f311 := Tryz.func109.trans (congrArg some (by kernel_rfl))
  f312 := Tryz.func110.trans (congrArg some (by kernel_rfl))
  t0 := Tryz.underlying0
  a0 := Tryz.isAgg0
  z0 := Tryz.sizeOf0
  v0 := Tryz.zeroValue0
  t3 := Tryz.underlying3
  a3 := Tryz.isAgg3
  z3 := Tryz.sizeOf3
  v3 := Tryz.zeroValue3
  t4 := Tryz.underlying4
  a4 := Tryz.isAgg4
  z4 := Tryz.sizeOf4
  v4 := Tryz.zeroValue4
  t5 := Tryz.underlying5
  a5 := Tryz.isAgg5
  z5 := Tryz.sizeOf5
  v5 := Tryz.zeroValue5
  t21 := Tryz.underlying21
  a21 := Tryz.isAgg21
  z21 := Tryz.sizeOf21
  v21 := Tryz.zeroValue21
  t46 := Tryz.underlying122
  a46 := Tryz.isAgg122
  z46 := Tryz.sizeOf122
  v46 := Tryz.zeroValue122
  t49 := Tryz.underlying148
  a49 := Tryz.isAgg148
  z49 := Tryz.sizeOf148
  v49 := Tryz.zeroValue148
  t51 := Tryz.underlying133
  a51 := Tryz.isAgg133
  z51 := Tryz.sizeOf133
  v51 := Tryz.zeroValue133
  t119 := Tryz.underlying118
  a119 := Tryz.isAgg118
  z119 := Tryz.sizeOf118
  t141 := Tryz.underlying135
  a141 := Tryz.isAgg135
  z141 := Tryz.sizeOf135
  v141 := Tryz.zeroValue135
  t193 := Tryz.underlying144
  a193 := Tryz.isAgg144
  z193 := Tryz.sizeOf144
  v193 := Tryz.zeroValue144
  t194 := Tryz.underlying145
  a194 := Tryz.isAgg145
  z194 := Tryz.sizeOf145
  v194 := Tryz.zeroValue145
  t196 := Tryz.underlying147
  a196 := Tryz.isAgg147
  z196 := Tryz.sizeOf147
  v196 := Tryz.zeroValue147
  t198 := Tryz.underlying150
  a198 := Tryz.isAgg150
  z198 := Tryz.sizeOf150
  v198 := Tryz.zeroValue150
  t201 := Tryz.underlying153
  a201 := Tryz.isAgg153
  z201 := Tryz.sizeOf153
  v201 := Tryz.zeroValue153
  t226 := Tryz.underlying155
  a226 := Tryz.isAgg155
  z226 := Tryz.sizeOf155
  v226 := Tryz.zeroValue155
  t227 := Tryz.underlying156
  a227 := Tryz.isAgg156
  z227 := Tryz.sizeOf156
  v227 := Tryz.zeroValue156
  g7 := by kernel_rfl
  g8 := by kernel_rfl }
def Tryz.laysDigit_ren : Go.Shelf.Ren := ⟨fun | 198 => 89 | 261 => 105 | 311 => 109 | 312 => 110 | n => n, fun | 21 => 21 | 4 => 4 | 141 => 135 | 0 => 0 | 196 => 147 | 193 => 144 | 3 => 3 | 51 => 133 | 198 => 150 | 49 => 148 | 194 => 145 | 201 => 153 | 226 => 155 | 46 => 122 | 227 => 156 | n => n, fun | 5 => 5 | n => n⟩
theorem Tryz.laysDigit : Go.Proofs.Lays.n198 Tryz.prog Tryz.laysDigit_ren := {
  mixed := by kernel_rfl
  f198 := Tryz.func89.trans (congrArg some (by kernel_rfl))
  f261 := Tryz.func105.trans (congrArg some (by kernel_rfl))
  f311 := Tryz.func109.trans (congrArg some (by kernel_rfl))
  f312 := Tryz.func110.trans (congrArg some (by kernel_rfl))
  t0 := Tryz.underlying0
  a0 := Tryz.isAgg0
  z0 := Tryz.sizeOf0
  v0 := Tryz.zeroValue0
  t3 := Tryz.underlying3
  a3 := Tryz.isAgg3
  z3 := Tryz.sizeOf3
  v3 := Tryz.zeroValue3
  t4 := Tryz.underlying4
  a4 := Tryz.isAgg4
  z4 := Tryz.sizeOf4
  v4 := Tryz.zeroValue4
  t21 := Tryz.underlying21
  a21 := Tryz.isAgg21
  z21 := Tryz.sizeOf21
  v21 := Tryz.zeroValue21
  t46 := Tryz.underlying122
  a46 := Tryz.isAgg122
  z46 := Tryz.sizeOf122
  v46 := Tryz.zeroValue122
  t49 := Tryz.underlying148
  a49 := Tryz.isAgg148
  z49 := Tryz.sizeOf148
  v49 := Tryz.zeroValue148
  t51 := Tryz.underlying133
  a51 := Tryz.isAgg133
  z51 := Tryz.sizeOf133
  v51 := Tryz.zeroValue133
  t141 := Tryz.underlying135
  a141 := Tryz.isAgg135
  z141 := Tryz.sizeOf135
  v141 := Tryz.zeroValue135
  t193 := Tryz.underlying144
  a193 := Tryz.isAgg144
  z193 := Tryz.sizeOf144
  v193 := Tryz.zeroValue144
  t194 := Tryz.underlying145
  a194 := Tryz.isAgg145
  z194 := Tryz.sizeOf145
  v194 := Tryz.zeroValue145
  t196 := Tryz.underlying147
  a196 := Tryz.isAgg147
  z196 := Tryz.sizeOf147
  v196 := Tryz.zeroValue147
  t198 := Tryz.underlying150
  a198 := Tryz.isAgg150
  z198 := Tryz.sizeOf150
  v198 := Tryz.zeroValue150
  t201 := Tryz.underlying153
  a201 := Tryz.isAgg153
  z201 := Tryz.sizeOf153
  v201 := Tryz.zeroValue153
  t226 := Tryz.underlying155
  a226 := Tryz.isAgg155
  z226 := Tryz.sizeOf155
  v226 := Tryz.zeroValue155
  t227 := Tryz.underlying156
  a227 := Tryz.isAgg156
  z227 := Tryz.sizeOf156
  v227 := Tryz.zeroValue156
  g5 := by kernel_rfl }

theorem gprop : Tryz.prog.globalNamed "unicode.properties" = some (Tryz.laysLetter_ren.g 7) := by kernel_rfl
/-- What the library's variables hold. -/
def Tabs (w : World) : Prop := Lib.Utf8Tabs (Tryz.laysDec_ren.g 3) (Tryz.laysDec_ren.g 4) w ∧ Lib.TabIs Tryz.prog w "unicode.properties" .u8 Lib.propertiesTab ∧ RVar (Tryz.laysLetter_ren.g 8) letterT w ∧ RVar (Tryz.laysDigit_ren.g 5) digitT w
theorem tabs_on {w w' : World} (h : Tabs w) (hb : Below w.heap.size w w') : Tabs w' :=
  ⟨Utf8Tabs_below h.1 hb, TabIs_below gprop h.2.1 hb, RVar_below h.2.2.1 hb, RVar_below h.2.2.2 hb⟩
def isLet (r : Int) : Bool := if latin1 r then isLetterL r else exclGo letterT r
def isDig (r : Int) : Bool := if r ≤ 255 then isDigitL r else exclGo digitT r
theorem letter_any (r : Int) (w : World) (hT : Tabs w) (h0 : -2147483648 ≤ r) (h1 : r ≤ 2147483647) : Calls Tryz.prog 88 #[.int .i32 r] w fun e w' => e = .returned (.bool (isLet r)) ∧ Below w.heap.size w w' :=
  Any.unicode_IsLetter_any Tryz.laysLetter gprop letterT r w h0 h1 hT.2.1 hT.2.2.1 letterT_ok
theorem digit_any (r : Int) (w : World) (hT : Tabs w) (h0 : -2147483648 ≤ r) (h1 : r ≤ 2147483647) : Calls Tryz.prog 89 #[.int .i32 r] w fun e w' => e = .returned (.bool (isDig r)) ∧ Below w.heap.size w w' :=
  Any.unicode_IsDigit_any Tryz.laysDigit digitT r w h0 h1 hT.2.2.2 digitT_ok
theorem valid_any (s : ByteArray) (w : World) (hT : Tabs w) (hs : s.size ≤ 9223372036854775807) :
    Calls Tryz.prog 72 #[.string s] w fun e w' => e = .returned (.bool (Lib.validD s.data.toList)) ∧ Below w.heap.size w w' := Any.utf8_ValidString Tryz.laysValid s w hs hT.1
theorem dec_ru (s : ByteArray) (i : Nat) (hi : i < s.size) (w : World) (hT : Tabs w) :
    Calls Tryz.prog 71 #[.string (s.extract i s.size)] w fun e w' => e = .returned (.tuple #[.int .i32 (rn (lft s.data.toList i) : Int), .int .i64 (wd (lft s.data.toList i) : Int)]) ∧ Below w.heap.size w w' := by
  have hz : (s.extract i s.size).size ≠ 0 := by simp; omega
  have hd : (s.extract i s.size).data.toList = lft s.data.toList i := by
    simp only [lft, ByteArray.data_extract, Array.toList_extract]
    rw [List.extract_eq_take_drop]
    rw [List.take_of_length_le (by simp)]
  have q := Any.utf8_DecodeRuneInString Tryz.laysDec (s.extract i s.size) w hT.1
  have e : Lib.decodeGo (s.extract i s.size) = decodeL (lft s.data.toList i) := by
    unfold Lib.decodeGo
    rw [if_neg hz, decode_drop, hd]
    rfl
  rw [e] at q
  exact q

/-! ### the first broken byte -/
def brkAt : Nat → List (Nat × Nat) → Int
  | _, [] => -1
  | o, (n, r) :: xs => if r = 65533 ∧ n = 1 then (o : Int) else brkAt (o + n) xs
def atE (l : By) : Int := brkAt 0 (rs l)
theorem at_step {s : By} {i : Nat} (hi : i < s.length) : brkAt i (rs (lft s i)) = if rn (lft s i) = 65533 ∧ wd (lft s i) = 1 then (i : Int) else brkAt (i + wd (lft s i)) (rs (lft s (i + wd (lft s i)))) := by
  rw [rs_lft hi]
  rfl
theorem at_end (s : By) : brkAt s.length (rs (lft s s.length)) = -1 := by
  have : lft s s.length = [] := by simp [lft]
  rw [this, rs_nil]
  rfl
set_option maxHeartbeats 4000000
set_option maxRecDepth 100000
end Go.Proofs.YtcfgpmmclijonaaGreatDoor
