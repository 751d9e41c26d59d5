/- Layer 21: the library's contracts at this program; bits. -/
import Derived.Test.YtddigbhijfpmkaaDoorKePlain
import Derived.Test.YtddigbhijfpmkaaDoorRuB
import Derived.Ground.NamesProg
import Derived.Shelf.Unicode.DecodeAny
import Derived.Shelf.Unicode.ValidAny
import Derived.Shelf.Small.Wraps
import Derived.Shelf.Strings.Shaped
import Derived.Shelf.Strings.OnBuilder
namespace Go.Proofs.YtddigbhijfpmkaaDoor
set_option linter.unusedVariables false
set_option linter.unusedSimpArgs false
set_option maxRecDepth 100000
open Go.RowKit Go.Shelf Go.Lib

def Tryd.laysDec_ren : Go.Shelf.Ren := ⟨fun | 197 => 46 | 260 => 65 | n => n, fun | 9 => 9 | 21 => 21 | 3 => 3 | 4 => 4 | 5 => 5 | 105 => 62 | 119 => 87 | 0 => 0 | 46 => 91 | 139 => 90 | 138 => 89 | n => n, fun | 3 => 0 | 4 => 1 | n => n⟩
theorem Tryd.laysDec : Go.Proofs.Lays.n197 Tryd.prog Tryd.laysDec_ren := {
  mixed := by kernel_rfl
  f197 := Tryd.func46.trans (congrArg some (by kernel_rfl))
  f260 := Tryd.func65.trans (congrArg some (by kernel_rfl))
  t0 := Tryd.underlying0
  a0 := Tryd.isAgg0
  z0 := Tryd.sizeOf0
  v0 := Tryd.zeroValue0
  t3 := Tryd.underlying3
  a3 := Tryd.isAgg3
  z3 := Tryd.sizeOf3
  v3 := Tryd.zeroValue3
  t4 := Tryd.underlying4
  a4 := Tryd.isAgg4
  z4 := Tryd.sizeOf4
  v4 := Tryd.zeroValue4
  t5 := Tryd.underlying5
  a5 := Tryd.isAgg5
  z5 := Tryd.sizeOf5
  v5 := Tryd.zeroValue5
  t9 := Tryd.underlying9
  a9 := Tryd.isAgg9
  z9 := Tryd.sizeOf9
  v9 := Tryd.zeroValue9
  t21 := Tryd.underlying21
  a21 := Tryd.isAgg21
  z21 := Tryd.sizeOf21
  v21 := Tryd.zeroValue21
  t46 := Tryd.underlying91
  a46 := Tryd.isAgg91
  z46 := Tryd.sizeOf91
  v46 := Tryd.zeroValue91
  t105 := Tryd.underlying62
  a105 := Tryd.isAgg62
  z105 := Tryd.sizeOf62
  v105 := Tryd.zeroValue62
  t119 := Tryd.underlying87
  a119 := Tryd.isAgg87
  z119 := Tryd.sizeOf87
  t138 := Tryd.underlying89
  a138 := Tryd.isAgg89
  z138 := Tryd.sizeOf89
  v138 := Tryd.zeroValue89
  t139 := Tryd.underlying90
  a139 := Tryd.isAgg90
  z139 := Tryd.sizeOf90
  v139 := Tryd.zeroValue90
  g3 := by kernel_rfl
  g4 := by kernel_rfl }
def Tryd.laysValid_ren : Go.Shelf.Ren := ⟨fun | 196 => 63 | 259 => 84 | n => n, fun | 9 => 9 | 4 => 4 | 3 => 3 | 5 => 5 | 12 => 12 | 119 => 87 | 0 => 0 | 46 => 91 | 139 => 90 | 138 => 89 | 53 => 116 | n => n, fun | 3 => 0 | 4 => 1 | n => n⟩
theorem Tryd.laysValid : Go.Proofs.Lays.n196 Tryd.prog Tryd.laysValid_ren := {
  mixed := by kernel_rfl
  f196 := Tryd.func63.trans (congrArg some (by kernel_rfl))
  f259 := Tryd.func84.trans (congrArg some (by kernel_rfl))
  t0 := Tryd.underlying0
  a0 := Tryd.isAgg0
  z0 := Tryd.sizeOf0
  v0 := Tryd.zeroValue0
  t3 := Tryd.underlying3
  a3 := Tryd.isAgg3
  z3 := Tryd.sizeOf3
  v3 := Tryd.zeroValue3
  t4 := Tryd.underlying4
  a4 := Tryd.isAgg4
  z4 := Tryd.sizeOf4
  v4 := Tryd.zeroValue4
  t5 := Tryd.underlying5
  a5 := Tryd.isAgg5
  z5 := Tryd.sizeOf5
  v5 := Tryd.zeroValue5
  t9 := Tryd.underlying9
  a9 := Tryd.isAgg9
  z9 := Tryd.sizeOf9
  v9 := Tryd.zeroValue9
  t12 := Tryd.underlying12
  a12 := Tryd.isAgg12
  z12 := Tryd.sizeOf12
  v12 := Tryd.zeroValue12
  t46 := Tryd.underlying91
  a46 := Tryd.isAgg91
  z46 := Tryd.sizeOf91
  v46 := Tryd.zeroValue91
  t53 := Tryd.underlying116
  a53 := Tryd.isAgg116
  z53 := Tryd.sizeOf116
  v53 := Tryd.zeroValue116
  t119 := Tryd.underlying87
  a119 := Tryd.isAgg87
  z119 := Tryd.sizeOf87
  t138 := Tryd.underlying89
  a138 := Tryd.isAgg89
  z138 := Tryd.sizeOf89
  v138 := Tryd.zeroValue89
  t139 := Tryd.underlying90
  a139 := Tryd.isAgg90
  z139 := Tryd.sizeOf90
  v139 := Tryd.zeroValue90
  g3 := by kernel_rfl
  g4 := by kernel_rfl }
def Tryd.laysCP_ren : Go.Shelf.Ren := ⟨fun | 103 => 55 | 210 => 80 | 206 => 88 | n => n, fun | 9 => 9 | 4 => 4 | 24 => 73 | 3 => 3 | n => n, fun | n => n⟩
theorem Tryd.laysCP : Go.Proofs.Lays.n103 Tryd.prog Tryd.laysCP_ren := {
  mixed := by kernel_rfl
  f103 := Tryd.func55.trans (congrArg some (by kernel_rfl))
  f206 := Tryd.func88.trans (congrArg some (by kernel_rfl))
  f210 := Tryd.func80.trans (congrArg some (by kernel_rfl))
  t3 := Tryd.underlying3
  a3 := Tryd.isAgg3
  z3 := Tryd.sizeOf3
  v3 := Tryd.zeroValue3
  t4 := Tryd.underlying4
  a4 := Tryd.isAgg4
  z4 := Tryd.sizeOf4
  v4 := Tryd.zeroValue4
  t9 := Tryd.underlying9
  a9 := Tryd.isAgg9
  z9 := Tryd.sizeOf9
  v9 := Tryd.zeroValue9
  t24 := Tryd.underlying73
  a24 := Tryd.isAgg73
  z24 := Tryd.sizeOf73
  v24 := Tryd.zeroValue73 }
def Tryd.laysCut_ren : Go.Shelf.Ren := ⟨fun | 145 => 71 | 220 => 86 | 219 => 83 | 217 => 91 | 225 => 92 | 224 => 93 | 267 => 94 | 266 => 95 | 314 => 96 | n => n, fun | 9 => 9 | 4 => 4 | 59 => 96 | 3 => 3 | 5 => 5 | 46 => 91 | 146 => 118 | 51 => 117 | n => n, fun | 1 => 2 | n => n⟩
theorem Tryd.laysCut : Go.Proofs.LaysM.n145 Tryd.prog Tryd.laysCut_ren := {
  mixed := by kernel_rfl
  f145 := Tryd.func71.trans (congrArg some (by kernel_rfl))
  f217 := Tryd.func91.trans (congrArg some (by kernel_rfl))
  f219 := Tryd.func83.trans (congrArg some (by kernel_rfl))
  f220 := Tryd.func86.trans (congrArg some (by kernel_rfl))
  f224 := Tryd.func93.trans (congrArg some (by kernel_rfl))
  f225 := Tryd.func92.trans (congrArg some (by kernel_rfl))
  f266 := Tryd.func95.trans (congrArg some (by kernel_rfl))
  f267 := Tryd.func94.trans (congrArg some (by kernel_rfl))
  f314 := Tryd.func96.trans (congrArg some (by kernel_rfl))
  t3 := Tryd.underlying3
  a3 := Tryd.isAgg3
  z3 := Tryd.sizeOf3
  v3 := Tryd.zeroValue3
  t4 := Tryd.underlying4
  a4 := Tryd.isAgg4
  z4 := Tryd.sizeOf4
  v4 := Tryd.zeroValue4
  t5 := Tryd.underlying5
  a5 := Tryd.isAgg5
  z5 := Tryd.sizeOf5
  v5 := Tryd.zeroValue5
  t9 := Tryd.underlying9
  a9 := Tryd.isAgg9
  z9 := Tryd.sizeOf9
  v9 := Tryd.zeroValue9
  t46 := Tryd.underlying91
  a46 := Tryd.isAgg91
  z46 := Tryd.sizeOf91
  v46 := Tryd.zeroValue91
  t51 := Tryd.underlying117
  a51 := Tryd.isAgg117
  z51 := Tryd.sizeOf117
  v51 := Tryd.zeroValue117
  t59 := Tryd.underlying96
  a59 := Tryd.isAgg96
  z59 := Tryd.sizeOf96
  v59 := Tryd.zeroValue96
  t146 := Tryd.underlying118
  a146 := Tryd.isAgg118
  z146 := Tryd.sizeOf118
  v146 := Tryd.zeroValue118
  g1 := by kernel_rfl
  i3 := by kernel_rfl
  i4 := by kernel_rfl
  i5 := by kernel_rfl
  i9 := by kernel_rfl
  i46 := by kernel_rfl
  i51 := by kernel_rfl
  i59 := by kernel_rfl
  i146 := by kernel_rfl
  m1 := by kernel_rfl
  s1_3 := fun w h => Go.Proofs.cell_of_shapedOpen_int (zero := #[.int .i64 0]) (t := 3) h (of_decide_eq_true (by kernel_rfl)) (by kernel_rfl) rfl (by kernel_rfl) (by kernel_rfl) Tryd.underlying3 }
def Tryd.laysIdx_ren : Go.Shelf.Ren := ⟨fun | 143 => 61 | 219 => 83 | 217 => 91 | 225 => 92 | 224 => 93 | 267 => 94 | 266 => 95 | 314 => 96 | n => n, fun | 9 => 9 | 3 => 3 | 4 => 4 | 5 => 5 | 46 => 91 | 146 => 118 | 51 => 117 | n => n, fun | 1 => 2 | n => n⟩
theorem Tryd.laysIdx : Go.Proofs.LaysM.n143 Tryd.prog Tryd.laysIdx_ren := {
  mixed := by kernel_rfl
  f143 := Tryd.func61.trans (congrArg some (by kernel_rfl))
  f217 := Tryd.func91.trans (congrArg some (by kernel_rfl))
  f219 := Tryd.func83.trans (congrArg some (by kernel_rfl))
  f224 := Tryd.func93.trans (congrArg some (by kernel_rfl))
  f225 := Tryd.func92.trans (congrArg some (by kernel_rfl))
  f266 := Tryd.func95.trans (congrArg some (by kernel_rfl))
  f267 := Tryd.func94.trans (congrArg some (by kernel_rfl))
  f314 := Tryd.func96.trans (congrArg some (by kernel_rfl))
  t3 := Tryd.underlying3
  a3 := Tryd.isAgg3
  z3 := Tryd.sizeOf3
  v3 := Tryd.zeroValue3
  t4 := Tryd.underlying4
  a4 := Tryd.isAgg4
  z4 := Tryd.sizeOf4
  v4 := Tryd.zeroValue4
  t5 := Tryd.underlying5
  a5 := Tryd.isAgg5
  z5 := Tryd.sizeOf5
  v5 := Tryd.zeroValue5
  t9 := Tryd.underlying9
  a9 := Tryd.isAgg9
  z9 := Tryd.sizeOf9
  v9 := Tryd.zeroValue9
  t46 := Tryd.underlying91
  a46 := Tryd.isAgg91
  z46 := Tryd.sizeOf91
  v46 := Tryd.zeroValue91
  t51 := Tryd.underlying117
  a51 := Tryd.isAgg117
  z51 := Tryd.sizeOf117
  v51 := Tryd.zeroValue117
  t146 := Tryd.underlying118
  a146 := Tryd.isAgg118
  z146 := Tryd.sizeOf118
  v146 := Tryd.zeroValue118
  g1 := by kernel_rfl
  i3 := by kernel_rfl
  i4 := by kernel_rfl
  i5 := by kernel_rfl
  i9 := by kernel_rfl
  i46 := by kernel_rfl
  i51 := by kernel_rfl
  i146 := by kernel_rfl
  m1 := by kernel_rfl
  s1_3 := fun w h => Go.Proofs.cell_of_shapedOpen_int (zero := #[.int .i64 0]) (t := 3) h (of_decide_eq_true (by kernel_rfl)) (by kernel_rfl) rfl (by kernel_rfl) (by kernel_rfl) Tryd.underlying3 }
def Tryd.laysJoin_ren : Go.Shelf.Ren := ⟨fun | 156 => 41 | 165 => 57 | 166 => 58 | 169 => 59 | 240 => 81 | 241 => 82 | 276 => 89 | 277 => 90 | n => n, fun | 31 => 38 | 9 => 9 | 3 => 3 | 4 => 4 | 0 => 0 | 20 => 20 | 72 => 77 | 76 => 81 | 70 => 75 | 37 => 71 | 75 => 80 | 127 => 105 | 164 => 111 | 5 => 5 | 80 => 83 | n => n, fun | n => n⟩
theorem Tryd.laysJoin : Go.Proofs.Lays.n156 Tryd.prog Tryd.laysJoin_ren := {
  mixed := by kernel_rfl
  f156 := Tryd.func41.trans (congrArg some (by kernel_rfl))
  f165 := Tryd.func57.trans (congrArg some (by kernel_rfl))
  f166 := Tryd.func58.trans (congrArg some (by kernel_rfl))
  f169 := Tryd.func59.trans (congrArg some (by kernel_rfl))
  f240 := Tryd.func81.trans (congrArg some (by kernel_rfl))
  f241 := Tryd.func82.trans (congrArg some (by kernel_rfl))
  f276 := Tryd.func89.trans (congrArg some (by kernel_rfl))
  f277 := Tryd.func90.trans (congrArg some (by kernel_rfl))
  t0 := Tryd.underlying0
  a0 := Tryd.isAgg0
  z0 := Tryd.sizeOf0
  v0 := Tryd.zeroValue0
  t3 := Tryd.underlying3
  a3 := Tryd.isAgg3
  z3 := Tryd.sizeOf3
  v3 := Tryd.zeroValue3
  t4 := Tryd.underlying4
  a4 := Tryd.isAgg4
  z4 := Tryd.sizeOf4
  v4 := Tryd.zeroValue4
  t9 := Tryd.underlying9
  a9 := Tryd.isAgg9
  z9 := Tryd.sizeOf9
  v9 := Tryd.zeroValue9
  t20 := Tryd.underlying20
  a20 := Tryd.isAgg20
  z20 := Tryd.sizeOf20
  v20 := Tryd.zeroValue20
  t31 := Tryd.underlying38
  a31 := Tryd.isAgg38
  z31 := Tryd.sizeOf38
  v31 := Tryd.zeroValue38
  t37 := Tryd.underlying71
  a37 := Tryd.isAgg71
  z37 := Tryd.sizeOf71
  v37 := Tryd.zeroValue71
  t70 := Tryd.underlying75
  a70 := Tryd.isAgg75
  z70 := Tryd.sizeOf75
  v70 := Tryd.zeroValue75
  t72 := Tryd.underlying77
  a72 := Tryd.isAgg77
  z72 := Tryd.sizeOf77
  v72 := Tryd.zeroValue77
  t75 := Tryd.underlying80
  a75 := Tryd.isAgg80
  z75 := Tryd.sizeOf80
  v75 := Tryd.zeroValue80
  t76 := Tryd.underlying81
  a76 := Tryd.isAgg81
  z76 := Tryd.sizeOf81
  v76 := Tryd.zeroValue81
  t127 := Tryd.underlying105
  a127 := Tryd.isAgg105
  z127 := Tryd.sizeOf105
  v127 := Tryd.zeroValue105
  t164 := Tryd.underlying111
  a164 := Tryd.isAgg111
  z164 := Tryd.sizeOf111
  v164 := Tryd.zeroValue111 }

/-- What the library's variables hold: its two tables, and some number. -/
def Tabs (w : World) : Prop := Lib.Utf8Tabs (Tryd.laysDec_ren.g 3) (Tryd.laysDec_ren.g 4) w ∧ ∃ m, w.cell? ⟨Tryd.laysIdx_ren.g 1, 0, none⟩ = some (.int .i64 m)
theorem tabs_on {w w' : World} (h : Tabs w) (hb : Below w.heap.size w w') : Tabs w' := by
  refine ⟨Utf8Tabs_below h.1 hb, ?_⟩
  obtain ⟨m, hm⟩ := h.2
  refine ⟨m, ?_⟩
  rw [hb.cell (p := ⟨Tryd.laysIdx_ren.g 1, 0, none⟩) (World.block_lt_of_cell? _ _ hm)]
  exact hm
theorem ba_len (s : ByteArray) : s.data.toList.length = s.size := by simp
theorem ba_mk (s : ByteArray) : (⟨s.data.toList.toArray⟩ : ByteArray) = s := Lib.mk_data s
theorem ba_drop (s : ByteArray) (i : Nat) : s.extract i s.size = ⟨(s.data.toList.drop i).toArray⟩ := by
  rw [Lib.extract_eq, List.take_of_length_le (by simp)]
theorem ba_take (s : ByteArray) (i : Nat) : s.extract 0 i = ⟨(s.data.toList.take i).toArray⟩ := by
  rw [Lib.extract_eq, List.drop_zero, Nat.sub_zero]
theorem ba_sub (s : ByteArray) (i j : Nat) : s.extract i j = ⟨((s.data.toList.take j).drop i).toArray⟩ := by
  rw [Lib.extract_eq, List.drop_take]

def rnG (l : By) : Nat := if l = [] then 65533 else rn l
def wdG (l : By) : Nat := if l = [] then 0 else wd l
theorem dec_any (s : ByteArray) (w : World) (hT : Tabs w) :
    Calls Tryd.prog 46 #[.string s] w fun e w' => e = .returned (.tuple #[.int .i32 (rnG s.data.toList : Int), .int .i64 (wdG s.data.toList : Int)]) ∧ Below w.heap.size w w' := by
  have q := Any.utf8_DecodeRuneInString Tryd.laysDec s w hT.1
  have e : Lib.decodeGo s = (rnG s.data.toList, wdG s.data.toList) := by
    unfold Lib.decodeGo rnG wdG
    by_cases h : s.data.toList = []
    · have h0 : s.size = 0 := by rw [← ba_len, h]; rfl
      rw [if_pos h, if_pos h, if_pos h0]
    · have h0 : s.size ≠ 0 := fun e => h (List.eq_nil_of_length_eq_zero (by rw [ba_len]; exact e))
      rw [if_neg h, if_neg h, if_neg h0, decode_drop, List.drop_zero]
      rfl
  rw [e] at q
  exact q
theorem valid_any (s : ByteArray) (w : World) (hT : Tabs w) (hs : s.size ≤ 9223372036854775807) :
    Calls Tryd.prog 63 #[.string s] w fun e w' => e = .returned (.bool (Lib.validD s.data.toList)) ∧ Below w.heap.size w w' := Any.utf8_ValidString Tryd.laysValid s w hs hT.1
theorem cp_any (s p : ByteArray) (w : World) :
    Calls Tryd.prog 55 #[.string s, .string p] w fun e w' => e = .returned (.tuple #[.string ⟨(Lib.trimPrefix s.data.toList p.data.toList).toArray⟩, .bool (Lib.hasPrefix s.data.toList p.data.toList)]) ∧ w = w' :=
  (Any.strings_CutPrefix Tryd.laysCP s p w).mono fun _ _ ⟨he, hw⟩ => ⟨he, hw.symm⟩
theorem cutB_cons (b : UInt8) (t : By) : cutB (b :: t) = if b = 32 then [] :: cutB t else match cutB t with | [] => [[b]] | p :: ps => (b :: p) :: ps := rfl
theorem cutS_cons (b : UInt8) (t : By) : cutS (b :: t) = if b = 59 then ([], t, true) else (b :: (cutS t).1, (cutS t).2.1, (cutS t).2.2) := rfl
theorem ib_cons (b c : UInt8) (t : By) : Lib.indexByte (b :: t) c = if b = c then 0 else if Lib.indexByte t c = -1 then -1 else Lib.indexByte t c + 1 := by
  rw [Lib.indexByte]
  by_cases h : b = c
  · simp [h]
  · simp [h]
theorem cut_cutS : ∀ l : By, Lib.cut l [59] = cutS l := by
  intro l
  unfold Lib.cut
  rw [Lib.index_one]
  induction l with
  | nil => rfl
  | cons b t ih =>
    have hge := Lib.indexByte_ge t 59
    rw [cutS_cons, ib_cons]
    by_cases hb : b = 59
    · subst hb
      simp
    · rw [if_neg hb, if_neg hb, ← ih]
      by_cases h1 : Lib.indexByte t 59 = -1
      · simp [h1]
      · obtain ⟨k, hk⟩ : ∃ k : Nat, Lib.indexByte t 59 = (k : Int) := ⟨(Lib.indexByte t 59).toNat, by omega⟩
        have h2 : ¬ ((k : Int) = -1) := by omega
        have h3 : 0 ≤ (k : Int) := by omega
        have h4 : 0 ≤ (k : Int) + 1 := by omega
        have h5 : ((k : Int) + 1).toNat = k + 1 := by omega
        rw [hk, if_neg h2, if_pos h3, if_pos h4, h5]
        simp
theorem idx_split (l : By) : (Lib.index l [32] = -1 ∧ cutB l = [l]) ∨ ∃ k : Nat, Lib.index l [32] = (k : Int) ∧ k < l.length ∧ cutB l = l.take k :: cutB (l.drop (k + 1)) := by
  rw [Lib.index_one]
  induction l with
  | nil => exact .inl ⟨rfl, rfl⟩
  | cons b t ih =>
    have hge := Lib.indexByte_ge t 32
    rw [cutB_cons, ib_cons]
    by_cases hb : b = 32
    · subst hb
      right
      exact ⟨0, by simp, by simp, by simp⟩
    · rw [if_neg hb, if_neg hb]
      rcases ih with ⟨h1, h2⟩ | ⟨k, h1, h2, h3⟩
      · left
        rw [h1, h2]
        simp
      · right
        rw [h1, h3]
        have h4 : ¬ ((k : Int) = -1) := by omega
        rw [if_neg h4]
        exact ⟨k + 1, by omega, by simp; omega, by simp⟩
theorem cut_any (s : ByteArray) (w : World) (hT : Tabs w) (hs : s.size ≤ 4000000) :
    Calls Tryd.prog 71 #[.string s, .string { data := #[59] }] w fun e w' => e = .returned (.tuple #[.string ⟨(cutS s.data.toList).1.toArray⟩, .string ⟨(cutS s.data.toList).2.1.toArray⟩, .bool (cutS s.data.toList).2.2]) ∧ Below w.heap.size w w' := by
  obtain ⟨m, hm⟩ := hT.2
  refine (Any.strings_Cut { Tryd.laysCut with } s { data := #[59] } m w (by omega) hm).mono ?_
  rintro e w' ⟨rfl, n, rfl⟩
  refine ⟨?_, ?_⟩
  · rw [← cut_cutS]
  · exact ⟨rfl, rfl, rfl, Nat.le_refl _, fun _ _ => rfl⟩
theorem idx_any (s : ByteArray) (w : World) (hT : Tabs w) (hs : s.size ≤ 4000000) :
    Calls Tryd.prog 61 #[.string s, .string { data := #[32] }] w fun e w' => e = .returned (.int .i64 (Lib.index s.data.toList [32])) ∧ w = w' := by
  obtain ⟨m, hm⟩ := hT.2
  exact (Any.strings_Index { Tryd.laysIdx with } s { data := #[32] } m w (by omega) hm).mono fun _ _ ⟨he, hw⟩ => ⟨he, hw.symm⟩

/-! ### bits -/
theorem and_small : ∀ a : Fin 8, ∀ m : Fin 8, bits .and .u8 (a.val : Int) (m.val : Int) = ((a.val &&& m.val : Nat) : Int) := by decide +kernel
theorem or_small : ∀ a : Fin 8, ∀ m : Fin 8, bits .or .u8 (a.val : Int) (m.val : Int) = ((a.val ||| m.val : Nat) : Int) := by decide +kernel
theorem first_and (b : Nat) : bits .and .u8 (firstT b : Int) 7 = ((firstT b % 8 : Nat) : Int) := by
  rcases firstT_cases b with h | h | h | h | h | h | h | h | h <;> rw [h] <;> kernel_rfl

/-! ### FullRuneInString -/
set_option maxHeartbeats 4000000 in
set_option maxRecDepth 100000 in
theorem full_any (s : ByteArray) (w : World) (hT : Tabs w) (hs : s.size ≤ 4000000) : Calls Tryd.prog 47 #[.string s] w fun e w' => e = .returned (.bool (fullB s.data.toList)) ∧ Below w.heap.size w w' := by
  have hg : ∀ k (h : k < s.size), s.data.toList.getD k 0 = s[k] := fun k h => by
    rw [List.getD_eq_getElem?_getD, List.getElem?_eq_getElem (by simpa using h)]
    rfl
  by_cases h0 : s.size = 0
  · have hf : fullB s.data.toList = false := by unfold fullB; rw [ba_len, if_pos h0]
    rw [hf]
    have hz : (s.size : Int) = 0 := by omega
    go_enter Tryd.func47, Tryd.ntmps47
    go_wp2
    go_ret
    exact ⟨rfl, Below.refl _ _⟩
  · have hz : ¬ ((s.size : Int) = 0) := by omega
    have hzz : (0 : Int) < (s.size : Int) := by omega
    have hz' : 0 < s.size := by omega
    have hE : fullB s.data.toList = if firstT (s[0]'hz').toNat % 8 ≤ s.size then true else if 1 < s.size ∧ ((s.data.toList.getD 1 0).toNat < accLo (firstT (s[0]'hz').toNat / 16) ∨ accHi (firstT (s[0]'hz').toNat / 16) < (s.data.toList.getD 1 0).toNat) then true else decide (2 < s.size ∧ ((s.data.toList.getD 2 0).toNat < 128 ∨ 191 < (s.data.toList.getD 2 0).toNat)) := by
      unfold fullB
      rw [ba_len, if_neg h0, hg 0 hz']
    rw [hE]
    have hx := UInt8.toNat_lt (s[0]'hz')
    have hx' : (s[0]'hz').toNat < 256 := hx
    obtain ⟨x, hxe⟩ : ∃ x, s[0]'hz' = x := ⟨_, rfl⟩
    rw [hxe] at hE hx hx' ⊢
    have hx2 : (x.toNat : Int) < 256 := by omega
    clear hE
    have c0 : w.cell? ⟨0, x.toNat, none⟩ = some (.int .u8 (firstT x.toNat)) := hT.1.1 x.toNat hx'
    have hq := first_and x.toNat
    have h16 : firstT x.toNat / 16 < 16 := by rcases firstT_cases x.toNat with h | h | h | h | h | h | h | h | h <;> rw [h] <;> decide
    have h8 : firstT x.toNat % 8 < 8 := Nat.mod_lt _ (by decide)
    have c1 : w.cell? ⟨1, (firstT x.toNat / 16) * 2, none⟩ = some (.int .u8 (accLo (firstT x.toNat / 16))) := by rw [Nat.mul_comm]; exact (hT.1.2 _ h16).1
    have c2 : w.cell? ⟨1, (firstT x.toNat / 16) * 2 + 1, none⟩ = some (.int .u8 (accHi (firstT x.toNat / 16))) := by rw [Nat.mul_comm]; exact (hT.1.2 _ h16).2
    have hsh : (firstT x.toNat : Int) / 16 = ((firstT x.toNat / 16 : Nat) : Int) := by simp
    generalize firstT x.toNat % 8 = sz at *
    generalize firstT x.toNat / 16 = ix at *
    generalize firstT x.toNat = F at *
    generalize accLo ix = lo at *
    generalize accHi ix = hi at *
    by_cases h1 : sz ≤ s.size
    · have h1' : (sz : Int) ≤ (s.size : Int) := by omega
      rw [if_pos h1]
      go_enter Tryd.func47, Tryd.ntmps47
      go_wp2
      go_ret
      exact ⟨rfl, Below.refl _ _⟩
    · have h1' : ¬ ((sz : Int) ≤ (s.size : Int)) := by omega
      rw [if_neg h1]
      by_cases g1 : 1 < s.size
      · have g1' : (1 : Int) < (s.size : Int) := by omega
        obtain ⟨y, hye⟩ : ∃ y, s[1]'g1 = y := ⟨_, rfl⟩
        have hy1 : s.data.toList.getD 1 0 = y := by rw [← hye]; exact hg 1 g1
        rw [hy1]
        clear hy1
        by_cases g2 : y.toNat < lo
        · have g2' : (y.toNat : Int) < (lo : Int) := by omega
          rw [if_pos ⟨g1, .inl g2⟩]
          go_enter Tryd.func47, Tryd.ntmps47
          go_wp2
          generalize hv : w.alloc (.cells #[.int .u8 (lo : Int), .int .u8 (hi : Int)] 89) = v
          have cA : v.cell? ⟨w.heap.size, 0, none⟩ = some (.int .u8 (lo : Int)) := by rw [← hv]; simp
          have cB : v.cell? ⟨w.heap.size, 1, none⟩ = some (.int .u8 (hi : Int)) := by rw [← hv]; simp
          have hz1 : w.heap.size < v.heap.size := by rw [← hv]; simp
          have HV : Below w.heap.size w v := by rw [← hv]; exact (Below.refl _ _).alloc (Nat.le_refl _) _
          clear hv c0 c1 c2 hT
          refine region_ext mixed (by kernel_rfl) ?_
          (repeat (go_big_quiet_step (fail)))
          refine wpQuiet_nil ?_
          intro v8 hb8
          go_wp2
          go_ret
          exact ⟨rfl, HV.trans (hb8.mono HV.size)⟩
        · have g2' : ¬ ((y.toNat : Int) < (lo : Int)) := by omega
          have g2d : decide ((y.toNat : Int) < (lo : Int)) = false := decide_eq_false g2'
          have g2e : decide (y.toNat < lo) = false := decide_eq_false g2
          by_cases g3 : hi < y.toNat
          · have g3' : (hi : Int) < (y.toNat : Int) := by omega
            rw [if_pos ⟨g1, .inr g3⟩]
            go_enter Tryd.func47, Tryd.ntmps47
            go_wp2
            generalize hv : w.alloc (.cells #[.int .u8 (lo : Int), .int .u8 (hi : Int)] 89) = v
            have cA : v.cell? ⟨w.heap.size, 0, none⟩ = some (.int .u8 (lo : Int)) := by rw [← hv]; simp
            have cB : v.cell? ⟨w.heap.size, 1, none⟩ = some (.int .u8 (hi : Int)) := by rw [← hv]; simp
            have hz1 : w.heap.size < v.heap.size := by rw [← hv]; simp
            have HV : Below w.heap.size w v := by rw [← hv]; exact (Below.refl _ _).alloc (Nat.le_refl _) _
            clear hv c0 c1 c2 hT
            refine region_ext mixed (by kernel_rfl) ?_
            (repeat (go_big_quiet_step (fail)))
            refine wpQuiet_nil ?_
            intro v8 hb8
            go_wp2
            go_ret
            exact ⟨rfl, HV.trans (hb8.mono HV.size)⟩
          · have g3' : ¬ ((hi : Int) < (y.toNat : Int)) := by omega
            rw [if_neg (by omega)]
            by_cases g4 : 2 < s.size
            · have g4' : (2 : Int) < (s.size : Int) := by omega
              obtain ⟨u, hue⟩ : ∃ u, s[2]'g4 = u := ⟨_, rfl⟩
              have hu1 : s.data.toList.getD 2 0 = u := by rw [← hue]; exact hg 2 g4
              rw [hu1]
              clear hu1
              by_cases g5 : u.toNat < 128
              · have g5' : (u.toNat : Int) < 128 := by omega
                rw [decide_eq_true ⟨g4, .inl g5⟩]
                go_enter Tryd.func47, Tryd.ntmps47
                go_wp2
                generalize hv : w.alloc (.cells #[.int .u8 (lo : Int), .int .u8 (hi : Int)] 89) = v
                have cA : v.cell? ⟨w.heap.size, 0, none⟩ = some (.int .u8 (lo : Int)) := by rw [← hv]; simp
                have cB : v.cell? ⟨w.heap.size, 1, none⟩ = some (.int .u8 (hi : Int)) := by rw [← hv]; simp
                have hz1 : w.heap.size < v.heap.size := by rw [← hv]; simp
                have HV : Below w.heap.size w v := by rw [← hv]; exact (Below.refl _ _).alloc (Nat.le_refl _) _
                clear hv c0 c1 c2 hT
                refine region_ext mixed (by kernel_rfl) ?_
                (repeat (go_big_quiet_step (fail)))
                refine wpQuiet_nil ?_
                intro v8 hb8
                go_wp2
                go_ret
                exact ⟨rfl, HV.trans (hb8.mono HV.size)⟩
              · have g5' : ¬ ((u.toNat : Int) < 128) := by omega
                have g5d : decide ((u.toNat : Int) < 128) = false := decide_eq_false g5'
                have g5e : decide (u.toNat < 128) = false := decide_eq_false g5
                by_cases g6 : 191 < u.toNat
                · have g6' : (191 : Int) < (u.toNat : Int) := by omega
                  rw [decide_eq_true ⟨g4, .inr g6⟩]
                  go_enter Tryd.func47, Tryd.ntmps47
                  go_wp2
                  generalize hv : w.alloc (.cells #[.int .u8 (lo : Int), .int .u8 (hi : Int)] 89) = v
                  have cA : v.cell? ⟨w.heap.size, 0, none⟩ = some (.int .u8 (lo : Int)) := by rw [← hv]; simp
                  have cB : v.cell? ⟨w.heap.size, 1, none⟩ = some (.int .u8 (hi : Int)) := by rw [← hv]; simp
                  have hz1 : w.heap.size < v.heap.size := by rw [← hv]; simp
                  have HV : Below w.heap.size w v := by rw [← hv]; exact (Below.refl _ _).alloc (Nat.le_refl _) _
                  clear hv c0 c1 c2 hT
                  refine region_ext mixed (by kernel_rfl) ?_
                  (repeat (go_big_quiet_step (fail)))
                  refine wpQuiet_nil ?_
                  intro v8 hb8
                  go_wp2
                  go_ret
                  exact ⟨rfl, HV.trans (hb8.mono HV.size)⟩
                · have g6' : ¬ ((191 : Int) < (u.toNat : Int)) := by omega
                  rw [decide_eq_false (by omega)]
                  go_enter Tryd.func47, Tryd.ntmps47
                  go_wp2
                  generalize hv : w.alloc (.cells #[.int .u8 (lo : Int), .int .u8 (hi : Int)] 89) = v
                  have cA : v.cell? ⟨w.heap.size, 0, none⟩ = some (.int .u8 (lo : Int)) := by rw [← hv]; simp
                  have cB : v.cell? ⟨w.heap.size, 1, none⟩ = some (.int .u8 (hi : Int)) := by rw [← hv]; simp
                  have hz1 : w.heap.size < v.heap.size := by rw [← hv]; simp
                  have HV : Below w.heap.size w v := by rw [← hv]; exact (Below.refl _ _).alloc (Nat.le_refl _) _
                  clear hv c0 c1 c2 hT
                  refine region_ext mixed (by kernel_rfl) ?_
                  (repeat (go_big_quiet_step (fail)))
                  refine wpQuiet_nil ?_
                  intro v8 hb8
                  go_wp2
                  go_ret
                  exact ⟨rfl, HV.trans (hb8.mono HV.size)⟩
            · have g4' : ¬ ((2 : Int) < (s.size : Int)) := by omega
              have g4d : decide ((2 : Int) < (s.size : Int)) = false := decide_eq_false g4'
              have g4e : decide (2 < s.size) = false := decide_eq_false g4
              rw [decide_eq_false (by omega)]
              go_enter Tryd.func47, Tryd.ntmps47
              go_wp2
              generalize hv : w.alloc (.cells #[.int .u8 (lo : Int), .int .u8 (hi : Int)] 89) = v
              have cA : v.cell? ⟨w.heap.size, 0, none⟩ = some (.int .u8 (lo : Int)) := by rw [← hv]; simp
              have cB : v.cell? ⟨w.heap.size, 1, none⟩ = some (.int .u8 (hi : Int)) := by rw [← hv]; simp
              have hz1 : w.heap.size < v.heap.size := by rw [← hv]; simp
              have HV : Below w.heap.size w v := by rw [← hv]; exact (Below.refl _ _).alloc (Nat.le_refl _) _
              clear hv c0 c1 c2 hT
              refine region_ext mixed (by kernel_rfl) ?_
              (repeat (go_big_quiet_step (fail)))
              refine wpQuiet_nil ?_
              intro v8 hb8
              go_wp2
              go_ret
              exact ⟨rfl, HV.trans (hb8.mono HV.size)⟩
      · have g1' : ¬ ((1 : Int) < (s.size : Int)) := by omega
        have g1d : decide ((1 : Int) < (s.size : Int)) = false := decide_eq_false g1'
        have g1e : decide (1 < s.size) = false := decide_eq_false g1
        have g4' : ¬ ((2 : Int) < (s.size : Int)) := by omega
        have g4d : decide ((2 : Int) < (s.size : Int)) = false := decide_eq_false g4'
        have g4e : decide (2 < s.size) = false := decide_eq_false (by omega)
        rw [if_neg (by omega), decide_eq_false (by omega)]
        go_enter Tryd.func47, Tryd.ntmps47
        go_wp2
        generalize hv : w.alloc (.cells #[.int .u8 (lo : Int), .int .u8 (hi : Int)] 89) = v
        have cA : v.cell? ⟨w.heap.size, 0, none⟩ = some (.int .u8 (lo : Int)) := by rw [← hv]; simp
        have cB : v.cell? ⟨w.heap.size, 1, none⟩ = some (.int .u8 (hi : Int)) := by rw [← hv]; simp
        have hz1 : w.heap.size < v.heap.size := by rw [← hv]; simp
        have HV : Below w.heap.size w v := by rw [← hv]; exact (Below.refl _ _).alloc (Nat.le_refl _) _
        clear hv c0 c1 c2 hT
        refine region_ext mixed (by kernel_rfl) ?_
        (repeat (go_big_quiet_step (fail)))
        refine wpQuiet_nil ?_
        intro v8 hb8
        go_wp2
        go_ret
        exact ⟨rfl, HV.trans (hb8.mono HV.size)⟩
end Go.Proofs.YtddigbhijfpmkaaDoor
