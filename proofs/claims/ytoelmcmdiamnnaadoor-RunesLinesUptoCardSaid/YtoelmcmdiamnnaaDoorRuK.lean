/- Layer 3: the library's tables and contracts at this program; the first broken byte, kinds: both sides. -/
import Derived.Test.YtoelmcmdiamnnaaDoorRuI2
import Derived.Ground.NamesProg
import Derived.Shelf.Unicode.DecodeAny
import Derived.Shelf.Unicode.ValidAny
import Derived.Shelf.Unicode.PredsPay
namespace Go.Proofs.YtoelmcmdiamnnaaDoor
set_option linter.unusedVariables false
set_option linter.unusedSimpArgs false
set_option maxRecDepth 100000
open Go.RowKit Go.Shelf Go.Lib

def Tryd.laysDec_ren : Go.Shelf.Ren := ⟨fun | 197 => 43 | 260 => 61 | n => n, fun | 9 => 9 | 21 => 21 | 3 => 3 | 4 => 4 | 5 => 5 | 105 => 54 | 119 => 76 | 0 => 0 | 46 => 80 | 139 => 79 | 138 => 78 | n => n, fun | 3 => 0 | 4 => 1 | n => n⟩
theorem Tryd.laysDec : Go.Proofs.Lays.n197 Tryd.prog Tryd.laysDec_ren := {
  mixed := by kernel_rfl
  f197 := Tryd.func43.trans (congrArg some (by kernel_rfl))
  f260 := Tryd.func61.trans (congrArg some (by kernel_rfl))
  t0 := Tryd.underlying0
  a0 := Tryd.isAgg0
  z0 := Tryd.sizeOf0
  v0 := Tryd.zeroValue0
  t3 := Tryd.underlying3
  a3 := Tryd.isAgg3
  z3 := Tryd.sizeOf3
  v3 := Tryd.zeroValue3
  t4 := Tryd.underlying4
  a4 := Tryd.isAgg4
  z4 := Tryd.sizeOf4
  v4 := Tryd.zeroValue4
  t5 := Tryd.underlying5
  a5 := Tryd.isAgg5
  z5 := Tryd.sizeOf5
  v5 := Tryd.zeroValue5
  t9 := Tryd.underlying9
  a9 := Tryd.isAgg9
  z9 := Tryd.sizeOf9
  v9 := Tryd.zeroValue9
  t21 := Tryd.underlying21
  a21 := Tryd.isAgg21
  z21 := Tryd.sizeOf21
  v21 := Tryd.zeroValue21
  t46 := Tryd.underlying80
  a46 := Tryd.isAgg80
  z46 := Tryd.sizeOf80
  v46 := Tryd.zeroValue80
  t105 := Tryd.underlying54
  a105 := Tryd.isAgg54
  z105 := Tryd.sizeOf54
  v105 := Tryd.zeroValue54
  t119 := Tryd.underlying76
  a119 := Tryd.isAgg76
  z119 := Tryd.sizeOf76
  t138 := Tryd.underlying78
  a138 := Tryd.isAgg78
  z138 := Tryd.sizeOf78
  v138 := Tryd.zeroValue78
  t139 := Tryd.underlying79
  a139 := Tryd.isAgg79
  z139 := Tryd.sizeOf79
  v139 := Tryd.zeroValue79
  g3 := by kernel_rfl
  g4 := by kernel_rfl }
def Tryd.laysValid_ren : Go.Shelf.Ren := ⟨fun | 196 => 31 | 259 => 57 | n => n, fun | 9 => 9 | 4 => 4 | 3 => 3 | 5 => 5 | 12 => 12 | 119 => 76 | 0 => 0 | 46 => 80 | 139 => 79 | 138 => 78 | 53 => 89 | n => n, fun | 3 => 0 | 4 => 1 | n => n⟩
theorem Tryd.laysValid : Go.Proofs.Lays.n196 Tryd.prog Tryd.laysValid_ren := {
  mixed := by kernel_rfl
  f196 := Tryd.func31.trans (congrArg some (by kernel_rfl))
  f259 := Tryd.func57.trans (congrArg some (by kernel_rfl))
  t0 := Tryd.underlying0
  a0 := Tryd.isAgg0
  z0 := Tryd.sizeOf0
  v0 := Tryd.zeroValue0
  t3 := Tryd.underlying3
  a3 := Tryd.isAgg3
  z3 := Tryd.sizeOf3
  v3 := Tryd.zeroValue3
  t4 := Tryd.underlying4
  a4 := Tryd.isAgg4
  z4 := Tryd.sizeOf4
  v4 := Tryd.zeroValue4
  t5 := Tryd.underlying5
  a5 := Tryd.isAgg5
  z5 := Tryd.sizeOf5
  v5 := Tryd.zeroValue5
  t9 := Tryd.underlying9
  a9 := Tryd.isAgg9
  z9 := Tryd.sizeOf9
  v9 := Tryd.zeroValue9
  t12 := Tryd.underlying12
  a12 := Tryd.isAgg12
  z12 := Tryd.sizeOf12
  v12 := Tryd.zeroValue12
  t46 := Tryd.underlying80
  a46 := Tryd.isAgg80
  z46 := Tryd.sizeOf80
  v46 := Tryd.zeroValue80
  t53 := Tryd.underlying89
  a53 := Tryd.isAgg89
  z53 := Tryd.sizeOf89
  v53 := Tryd.zeroValue89
  t119 := Tryd.underlying76
  a119 := Tryd.isAgg76
  z119 := Tryd.sizeOf76
  t138 := Tryd.underlying78
  a138 := Tryd.isAgg78
  z138 := Tryd.sizeOf78
  v138 := Tryd.zeroValue78
  t139 := Tryd.underlying79
  a139 := Tryd.isAgg79
  z139 := Tryd.sizeOf79
  v139 := Tryd.zeroValue79
  g3 := by kernel_rfl
  g4 := by kernel_rfl }
def Tryd.laysLetter_ren : Go.Shelf.Ren := ⟨fun | 200 => 66 | 261 => 74 | 311 => 78 | 312 => 79 | n => n, fun | 21 => 21 | 4 => 4 | 51 => 92 | 5 => 5 | 119 => 76 | 0 => 0 | 141 => 95 | 196 => 99 | 193 => 96 | 3 => 3 | 198 => 102 | 49 => 100 | 194 => 97 | 201 => 105 | 226 => 108 | 46 => 80 | 227 => 109 | n => n, fun | 7 => 2 | 8 => 3 | n => n⟩
theorem Tryd.laysLetter : Go.Proofs.Lays.n200 Tryd.prog Tryd.laysLetter_ren := {
  mixed := by kernel_rfl
  f200 := Tryd.func66.trans (congrArg some (by kernel_rfl))
  f261 := Tryd.func74.trans (congrArg some (by kernel_rfl))
  f311 := Tryd.func78.trans (congrArg some (by kernel_rfl))
  f312 := Tryd.func79.trans (congrArg some (by kernel_rfl))
  t0 := Tryd.underlying0
  a0 := Tryd.isAgg0
  z0 := Tryd.sizeOf0
  v0 := Tryd.zeroValue0
  t3 := Tryd.underlying3
  a3 := Tryd.isAgg3
  z3 := Tryd.sizeOf3
  v3 := Tryd.zeroValue3
  t4 := Tryd.underlying4
  a4 := Tryd.isAgg4
  z4 := Tryd.sizeOf4
  v4 := Tryd.zeroValue4
  t5 := Tryd.underlying5
  a5 := Tryd.isAgg5
  z5 := Tryd.sizeOf5
  v5 := Tryd.zeroValue5
  t21 := Tryd.underlying21
  a21 := Tryd.isAgg21
  z21 := Tryd.sizeOf21
  v21 := Tryd.zeroValue21
  t46 := Tryd.underlying80
  a46 := Tryd.isAgg80
  z46 := Tryd.sizeOf80
  v46 := Tryd.zeroValue80
  t49 := Tryd.underlying100
  a49 := Tryd.isAgg100
  z49 := Tryd.sizeOf100
  v49 := Tryd.zeroValue100
  t51 := Tryd.underlying92
  a51 := Tryd.isAgg92
  z51 := Tryd.sizeOf92
  v51 := Tryd.zeroValue92
  t119 := Tryd.underlying76
  a119 := Tryd.isAgg76
  z119 := Tryd.sizeOf76
  t141 := Tryd.underlying95
  a141 := Tryd.isAgg95
  z141 := Tryd.sizeOf95
  v141 := Tryd.zeroValue95
  t193 := Tryd.underlying96
  a193 := Tryd.isAgg96
  z193 := Tryd.sizeOf96
  v193 := Tryd.zeroValue96
  t194 := Tryd.underlying97
  a194 := Tryd.isAgg97
  z194 := Tryd.sizeOf97
  v194 := Tryd.zeroValue97
  t196 := Tryd.underlying99
  a196 := Tryd.isAgg99
  z196 := Tryd.sizeOf99
  v196 := Tryd.zeroValue99
  t198 := Tryd.underlying102
  a198 := Tryd.isAgg102
  z198 := Tryd.sizeOf102
  v198 := Tryd.zeroValue102
  t201 := Tryd.underlying105
  a201 := Tryd.isAgg105
  z201 := Tryd.sizeOf105
  v201 := Tryd.zeroValue105
  t226 := Tryd.underlying108
  a226 := Tryd.isAgg108
  z226 := Tryd.sizeOf108
  v226 := Tryd.zeroValue108
  t227 := Tryd.underlying109
  a227 := Tryd.isAgg109
  z227 := Tryd.sizeOf109
  v227 := Tryd.zeroValue109
  g7 := by kernel_rfl
  g8 := by kernel_rfl }
def Tryd.laysDigit_ren : Go.Shelf.Ren := ⟨fun | 198 => 67 | 261 => 74 | 311 => 78 | 312 => 79 | n => n, fun | 21 => 21 | 4 => 4 | 141 => 95 | 0 => 0 | 196 => 99 | 193 => 96 | 3 => 3 | 51 => 92 | 198 => 102 | 49 => 100 | 194 => 97 | 201 => 105 | 226 => 108 | 46 => 80 | 227 => 109 | n => n, fun | 5 => 4 | n => n⟩
theorem Tryd.laysDigit : Go.Proofs.Lays.n198 Tryd.prog Tryd.laysDigit_ren := {
  mixed := by kernel_rfl
  f198 := Tryd.func67.trans (congrArg some (by kernel_rfl))
  f261 := Tryd.func74.trans (congrArg some (by kernel_rfl))
  f311 := Tryd.func78.trans (congrArg some (by kernel_rfl))
  f312 := Tryd.func79.trans (congrArg some (by kernel_rfl))
  t0 := Tryd.underlying0
  a0 := Tryd.isAgg0
  z0 := Tryd.sizeOf0
  v0 := Tryd.zeroValue0
  t3 := Tryd.underlying3
  a3 := Tryd.isAgg3
  z3 := Tryd.sizeOf3
  v3 := Tryd.zeroValue3
  t4 := Tryd.underlying4
  a4 := Tryd.isAgg4
  z4 := Tryd.sizeOf4
  v4 := Tryd.zeroValue4
  t21 := Tryd.underlying21
  a21 := Tryd.isAgg21
  z21 := Tryd.sizeOf21
  v21 := Tryd.zeroValue21
  t46 := Tryd.underlying80
  a46 := Tryd.isAgg80
  z46 := Tryd.sizeOf80
  v46 := Tryd.zeroValue80
  t49 := Tryd.underlying100
  a49 := Tryd.isAgg100
  z49 := Tryd.sizeOf100
  v49 := Tryd.zeroValue100
  t51 := Tryd.underlying92
  a51 := Tryd.isAgg92
  z51 := Tryd.sizeOf92
  v51 := Tryd.zeroValue92
  t141 := Tryd.underlying95
  a141 := Tryd.isAgg95
  z141 := Tryd.sizeOf95
  v141 := Tryd.zeroValue95
  t193 := Tryd.underlying96
  a193 := Tryd.isAgg96
  z193 := Tryd.sizeOf96
  v193 := Tryd.zeroValue96
  t194 := Tryd.underlying97
  a194 := Tryd.isAgg97
  z194 := Tryd.sizeOf97
  v194 := Tryd.zeroValue97
  t196 := Tryd.underlying99
  a196 := Tryd.isAgg99
  z196 := Tryd.sizeOf99
  v196 := Tryd.zeroValue99
  t198 := Tryd.underlying102
  a198 := Tryd.isAgg102
  z198 := Tryd.sizeOf102
  v198 := Tryd.zeroValue102
  t201 := Tryd.underlying105
  a201 := Tryd.isAgg105
  z201 := Tryd.sizeOf105
  v201 := Tryd.zeroValue105
  t226 := Tryd.underlying108
  a226 := Tryd.isAgg108
  z226 := Tryd.sizeOf108
  v226 := Tryd.zeroValue108
  t227 := Tryd.underlying109
  a227 := Tryd.isAgg109
  z227 := Tryd.sizeOf109
  v227 := Tryd.zeroValue109
  g5 := by kernel_rfl }

theorem gprop : Tryd.prog.globalNamed "unicode.properties" = some (Tryd.laysLetter_ren.g 7) := by kernel_rfl
/-- What the library's variables hold. -/
def Tabs (w : World) : Prop := Lib.Utf8Tabs (Tryd.laysDec_ren.g 3) (Tryd.laysDec_ren.g 4) w ∧ Lib.TabIs Tryd.prog w "unicode.properties" .u8 Lib.propertiesTab ∧ RVar (Tryd.laysLetter_ren.g 8) letterT w ∧ RVar (Tryd.laysDigit_ren.g 5) digitT w
theorem tabs_on {w w' : World} (h : Tabs w) (hb : Below w.heap.size w w') : Tabs w' :=
  ⟨Utf8Tabs_below h.1 hb, TabIs_below gprop h.2.1 hb, RVar_below h.2.2.1 hb, RVar_below h.2.2.2 hb⟩
def isLet (r : Int) : Bool := if latin1 r then isLetterL r else exclGo letterT r
def isDig (r : Int) : Bool := if r ≤ 255 then isDigitL r else exclGo digitT r
theorem letter_any (r : Int) (w : World) (hT : Tabs w) (h0 : -2147483648 ≤ r) (h1 : r ≤ 2147483647) : Calls Tryd.prog 66 #[.int .i32 r] w fun e w' => e = .returned (.bool (isLet r)) ∧ Below w.heap.size w w' :=
  Any.unicode_IsLetter_any Tryd.laysLetter gprop letterT r w h0 h1 hT.2.1 hT.2.2.1 letterT_ok
theorem digit_any (r : Int) (w : World) (hT : Tabs w) (h0 : -2147483648 ≤ r) (h1 : r ≤ 2147483647) : Calls Tryd.prog 67 #[.int .i32 r] w fun e w' => e = .returned (.bool (isDig r)) ∧ Below w.heap.size w w' :=
  Any.unicode_IsDigit_any Tryd.laysDigit digitT r w h0 h1 hT.2.2.2 digitT_ok
theorem valid_any (s : ByteArray) (w : World) (hT : Tabs w) (hs : s.size ≤ 9223372036854775807) :
    Calls Tryd.prog 31 #[.string s] w fun e w' => e = .returned (.bool (Lib.validD s.data.toList)) ∧ Below w.heap.size w w' := Any.utf8_ValidString Tryd.laysValid s w hs hT.1
theorem dec_any (s : ByteArray) (i : Nat) (hi : i < s.size) (w : World) (hT : Tabs w) :
    Calls Tryd.prog 43 #[.string (s.extract i s.size)] w fun e w' => e = .returned (.tuple #[.int .i32 (rn (lft s.data.toList i) : Int), .int .i64 (wd (lft s.data.toList i) : Int)]) ∧ Below w.heap.size w w' := by
  have hz : (s.extract i s.size).size ≠ 0 := by simp; omega
  have hd : (s.extract i s.size).data.toList = lft s.data.toList i := by
    simp only [lft, ByteArray.data_extract, Array.toList_extract]
    rw [List.extract_eq_take_drop]
    rw [List.take_of_length_le (by simp)]
  have q := Any.utf8_DecodeRuneInString Tryd.laysDec (s.extract i s.size) w hT.1
  have e : Lib.decodeGo (s.extract i s.size) = decodeL (lft s.data.toList i) := by
    unfold Lib.decodeGo
    rw [if_neg hz, decode_drop, hd]
    rfl
  rw [e] at q
  exact q

/-! ### the first broken byte -/
def brkAt : Nat → List (Nat × Nat) → Int
  | _, [] => -1
  | o, (n, r) :: xs => if r = 65533 ∧ n = 1 then (o : Int) else brkAt (o + n) xs
def atE (l : By) : Int := brkAt 0 (rs l)
theorem at_step {s : By} {i : Nat} (hi : i < s.length) : brkAt i (rs (lft s i)) = if rn (lft s i) = 65533 ∧ wd (lft s i) = 1 then (i : Int) else brkAt (i + wd (lft s i)) (rs (lft s (i + wd (lft s i)))) := by
  rw [rs_lft hi]
  rfl
theorem at_end (s : By) : brkAt s.length (rs (lft s s.length)) = -1 := by
  have : lft s s.length = [] := by simp [lft]
  rw [this, rs_nil]
  rfl
set_option maxHeartbeats 4000000
set_option maxRecDepth 100000
theorem rAt_any (s : ByteArray) (w : World) (hs : s.size ≤ 4000000) :
    Calls Tryd.prog 15 #[.string s] w fun e w' => e = .returned (.int .i64 (atE s.data.toList)) ∧ Below w.heap.size w w' := by
  have hlen : s.data.toList.length = s.size := by simp
  have he0 : atE s.data.toList = brkAt 0 (rs (lft s.data.toList 0)) := by simp [atE, lft]
  have HE := hid he0
  clear he0
  generalize atE s.data.toList = Z at *
  go_enter Tryd.func15, Tryd.ntmps15
  go_wp2
  go_loopg [3] s.size (fun gh v wr => ∃ i : Nat, v = .int .i64 i ∧ i ≤ s.size ∧ s.size - i ≤ gh ∧ Hid (Z = brkAt i (rs (lft s.data.toList i))) ∧ Below w.heap.size w wr)
  case atStart => exact ⟨0, rfl, by omega, by omega, hid HE.out, Below.refl _ _⟩
  case round =>
    obtain ⟨i, rfl, hi, hgh, HN, hbr⟩ := hrel
    by_cases hlt : i < s.size
    · have hli : (i : Int) < (s.size : Int) := by omega
      have hlt' : i < s.data.toList.length := by omega
      have hst := at_step hlt'
      have hw1 := wd_pos (lft s.data.toList i)
      have hw2 := lft_wd hlt'
      have C := one_at s i hlt wr
      have HS := hid hst
      clear hst
      cases hb : brk (decodeL (lft s.data.toList i)) with
      | true =>
        have hb2 : rn (lft s.data.toList i) = 65533 ∧ wd (lft s.data.toList i) = 1 := by
          exact of_decide_eq_true hb
        have hz : Z = (i : Int) := by rw [HN.out, HS.out, if_pos hb2]
        rw [hb] at C
        have HZ := hid hz
        clear hz hb2 hb
        go_wp2_with fail
        refine C.mono ?_
        rintro e w2 ⟨rfl, rfl⟩
        go_wp2
        go_ret
        exact ⟨ret_int HZ.out.symm, hbr⟩
      | false =>
        have hb2 : ¬ (rn (lft s.data.toList i) = 65533 ∧ wd (lft s.data.toList i) = 1) := by
          unfold brk at hb
          intro h
          rw [show rn (lft s.data.toList i) = (decodeL (lft s.data.toList i)).1 from rfl, show wd (lft s.data.toList i) = (decodeL (lft s.data.toList i)).2 from rfl] at h
          simp [h] at hb
        have hz : Z = brkAt (i + wd (lft s.data.toList i)) (rs (lft s.data.toList (i + wd (lft s.data.toList i)))) := by rw [HN.out, HS.out, if_neg hb2]
        rw [hb] at C
        have HZ := hid hz
        clear hz hb2 hb HS HN
        generalize wd (lft s.data.toList i) = n at *
        generalize rn (lft s.data.toList i) = r at *
        go_wp2_with fail
        refine C.mono ?_
        rintro e w2 ⟨rfl, rfl⟩
        go_wp2
        go_roundg (s.size - (i + n))
        case measure => omega
        case rel => exact ⟨i + n, by go_num, by omega, by omega, HZ, hbr⟩
    · have hie : i = s.data.toList.length := by omega
      have hz : Z = -1 := by rw [HN.out, hie, at_end]
      have HZ := hid hz
      have hli : ¬ ((i : Int) < (s.size : Int)) := by omega
      clear hz hie
      go_wp2
      go_ret
      exact ⟨ret_int HZ.out.symm, hbr⟩
theorem At_any (s : ByteArray) (w : World) (hT : Tabs w) (hs : s.size ≤ 4000000) :
    Calls Tryd.prog 14 #[.string s] w fun e w' => e = .returned (.int .i64 (atE s.data.toList)) ∧ Below w.heap.size w w' := by
  have hlen : s.data.toList.length = s.size := by simp
  have he0 : atE s.data.toList = brkAt 0 (rs (lft s.data.toList 0)) := by simp [atE, lft]
  have HE := hid he0
  have HT := hid hT
  clear he0 hT
  generalize atE s.data.toList = Z at *
  go_enter Tryd.func14, Tryd.ntmps14
  go_wp2
  go_loopg [] s.size (fun gh wr => ∃ i : Nat, i ≤ s.size ∧ s.size - i ≤ gh ∧ wr.heap[w.heap.size]? = some (.stringIter s i) ∧ Hid (Z = brkAt i (rs (lft s.data.toList i))) ∧ Hid (Below w.heap.size w wr))
  case atStart => exact ⟨0, by omega, by omega, World.iter_heap w s 0, hid HE.out, hid ((Below.refl _ w).alloc (Nat.le_refl _) _)⟩
  case round =>
    obtain ⟨i, hi, hgh, hit, HN, HB⟩ := hrel
    by_cases hlt : i < s.size
    · have hlt' : i < s.data.toList.length := by omega
      have hst := at_step hlt'
      have hw1 := wd_pos (lft s.data.toList i)
      have hw2 := lft_wd hlt'
      have hrn := rn_le (lft s.data.toList i)
      have hnx : ∀ ty, (Instr.next (.pointer (some ⟨w.heap.size, 0, none⟩)) true ty).run Tryd.prog wr = .ok (.tuple #[.bool true, .int .i64 i, .int .i32 (rn (lft s.data.toList i) : Int)]) (wr.iterAt w.heap.size s (i + wd (lft s.data.toList i))) := fun ty => by
        rw [Lib.run_next_any_at wr w.heap.size s i ty hit hlt, decode_drop]
        rfl
      have hit2 := Lib.iterAt_heap wr w.heap.size s i (i + wd (lft s.data.toList i)) hit
      have hbw2 := Lib.below_iterAt HB.out (k := w.heap.size) (Nat.le_refl _) s (i + wd (lft s.data.toList i))
      have HC := hid (fun x (hb : Below w.heap.size w x) => dec_any s i hlt x (tabs_on HT.out hb))
      have HS := hid hst
      clear hst hit HB
      generalize wr.iterAt w.heap.size s (i + wd (lft s.data.toList i)) = W at *
      generalize wd (lft s.data.toList i) = n at *
      generalize rn (lft s.data.toList i) = r at *
      have HW := hid (And.intro hit2 hbw2)
      clear hit2 hbw2
      by_cases h1 : r = 65533
      · subst h1
        by_cases h2 : n = 1
        · subst h2
          have hz : Z = (i : Int) := by rw [HN.out, HS.out, if_pos ⟨rfl, rfl⟩]
          have HZ := hid hz
          clear hz
          go_wp2_with fail
          refine (HC.out _ HW.out.2).mono ?_
          rintro e w2 ⟨rfl, hb2⟩
          go_wp2
          go_ret
          exact ⟨ret_int HZ.out.symm, HW.out.2.trans (hb2.mono HW.out.2.size)⟩
        · have hz : Z = brkAt (i + n) (rs (lft s.data.toList (i + n))) := by rw [HN.out, HS.out, if_neg (fun h => h2 h.2)]
          have HZ := hid hz
          have h2' : ¬ ((n : Int) = 1) := by omega
          clear hz h2
          go_wp2_with fail
          refine (HC.out _ HW.out.2).mono ?_
          rintro e w2 ⟨rfl, hb2⟩
          have hit3 : w2.heap[w.heap.size]? = some (.stringIter s (i + n)) := blk_on' HW.out.1 hb2
          have HB3 := hid (HW.out.2.trans (hb2.mono HW.out.2.size))
          clear hb2
          go_wp2
          go_roundg (s.size - (i + n))
          case measure => omega
          case rel => exact ⟨i + n, by omega, by omega, hit3, HZ, HB3⟩
      · have hz : Z = brkAt (i + n) (rs (lft s.data.toList (i + n))) := by rw [HN.out, HS.out, if_neg (fun h => h1 h.1)]
        have HZ := hid hz
        have h1' : ¬ ((r : Int) = 65533) := by omega
        have hit3 := HW.out.1
        clear hz h1
        go_wp2
        go_roundg (s.size - (i + n))
        case measure => omega
        case rel => exact ⟨i + n, by omega, by omega, HW.out.1, HZ, hid HW.out.2⟩
    · have hie : i = s.data.toList.length := by omega
      have hz : Z = -1 := by rw [HN.out, hie, at_end]
      have hnx : ∀ ty, (Instr.next (.pointer (some ⟨w.heap.size, 0, none⟩)) true ty).run Tryd.prog wr = _ := fun ty => Lib.run_next_end_at wr w.heap.size s i ty hit hlt
      have HZ := hid hz
      clear hz hie
      go_wp2
      go_ret
      exact ⟨ret_int HZ.out.symm, HB.out⟩
end Go.Proofs.YtoelmcmdiamnnaaDoor
