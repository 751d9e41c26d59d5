/- Layer 7: wrappers' texts and bits, in plain Lean, and the contracts of text. -/
import Derived.Test.YtnkojoajcdhngaaDoorBase
import Derived.Test.YtnkojoajcdhngaaDoorProg
import Derived.Ground.NamesProg
import Derived.Shelf.Unicode.ValidAny
import Derived.Laws.BitsAllLaws
import Derived.Lib.Hide
namespace Go.Proofs.YtnkojoajcdhngaaDoor
set_option linter.unusedVariables false
set_option linter.unusedSimpArgs false
set_option maxRecDepth 100000
open Go.RowKit Go.Shelf Go.Lib

def Tryd.laysValid_ren : Go.Shelf.Ren := ⟨fun | 196 => 113 | 259 => 121 | n => n, fun | 9 => 9 | 4 => 4 | 3 => 3 | 5 => 5 | 12 => 12 | 119 => 130 | 0 => 0 | 46 => 134 | 139 => 133 | 138 => 132 | 53 => 136 | n => n, fun | 3 => 0 | 4 => 1 | n => n⟩
theorem Tryd.laysValid : Go.Proofs.Lays.n196 Tryd.prog Tryd.laysValid_ren := {
  mixed := by kernel_rfl
  f196 := Tryd.func113.trans (congrArg some (by kernel_rfl))
  f259 := Tryd.func121.trans (congrArg some (by kernel_rfl))
  t0 := Tryd.underlying0
  a0 := Tryd.isAgg0
  z0 := Tryd.sizeOf0
  v0 := Tryd.zeroValue0
  t3 := Tryd.underlying3
  a3 := Tryd.isAgg3
  z3 := Tryd.sizeOf3
  v3 := Tryd.zeroValue3
  t4 := Tryd.underlying4
  a4 := Tryd.isAgg4
  z4 := Tryd.sizeOf4
  v4 := Tryd.zeroValue4
  t5 := Tryd.underlying5
  a5 := Tryd.isAgg5
  z5 := Tryd.sizeOf5
  v5 := Tryd.zeroValue5
  t9 := Tryd.underlying9
  a9 := Tryd.isAgg9
  z9 := Tryd.sizeOf9
  v9 := Tryd.zeroValue9
  t12 := Tryd.underlying12
  a12 := Tryd.isAgg12
  z12 := Tryd.sizeOf12
  v12 := Tryd.zeroValue12
  t46 := Tryd.underlying134
  a46 := Tryd.isAgg134
  z46 := Tryd.sizeOf134
  v46 := Tryd.zeroValue134
  t53 := Tryd.underlying136
  a53 := Tryd.isAgg136
  z53 := Tryd.sizeOf136
  v53 := Tryd.zeroValue136
  t119 := Tryd.underlying130
  a119 := Tryd.isAgg130
  z119 := Tryd.sizeOf130
  t138 := Tryd.underlying132
  a138 := Tryd.isAgg132
  z138 := Tryd.sizeOf132
  v138 := Tryd.zeroValue132
  t139 := Tryd.underlying133
  a139 := Tryd.isAgg133
  z139 := Tryd.sizeOf133
  v139 := Tryd.zeroValue133
  g3 := by kernel_rfl
  g4 := by kernel_rfl }

def Tabs (w : World) : Prop := Lib.Utf8Tabs (Tryd.laysValid_ren.g 3) (Tryd.laysValid_ren.g 4) w

theorem mixed : Tryd.prog.follows .mixedOrders = true := by kernel_rfl

/-- May a wrapper's text be? -/
def okS (s : ByteArray) : Bool := decide (s.size ≤ 64) && Lib.validD s.data.toList

set_option maxHeartbeats 1000000 in
set_option maxRecDepth 1000000 in
theorem text_any (s : ByteArray) (w : World) (hT : Tabs w) (hs : s.size ≤ 9223372036854775807) :
    Calls Tryd.prog 116 #[.string s] w fun e w' => e = .returned (.bool (okS s)) ∧ Below w.heap.size w w' := by
  have cV : Calls Tryd.prog 113 #[.string s] w _ := Any.utf8_ValidString Tryd.laysValid s w hs hT
  unfold okS
  generalize Lib.validD s.data.toList = V at cV ⊢
  by_cases h0 : s.size ≤ 64
  · have h0z : (s.size : Int) ≤ 64 := by omega
    rw [decide_eq_true h0, Bool.true_and]
    go_enter Tryd.func116, Tryd.ntmps116
    go_wp2_with (go_at_call 113; refine cV.mono ?_; rintro e w' ⟨rfl, hb⟩)
    go_ret
    exact ⟨rfl, hb⟩
  · have h0z : ¬ ((s.size : Int) ≤ 64) := by omega
    rw [decide_eq_false h0, Bool.false_and]
    clear cV
    go_enter Tryd.func116, Tryd.ntmps116
    go_wp2
    go_ret
    exact ⟨rfl, Below.refl _ _⟩
set_option maxHeartbeats 1000000 in
set_option maxRecDepth 1000000 in
theorem rtext_any (s : ByteArray) (w : World) (hT : Tabs w) (hs : s.size ≤ 9223372036854775807) :
    Calls Tryd.prog 114 #[.string s] w fun e w' => e = .returned (.bool (okS s)) ∧ Below w.heap.size w w' := by
  have cV : Calls Tryd.prog 113 #[.string s] w _ := Any.utf8_ValidString Tryd.laysValid s w hs hT
  unfold okS
  generalize Lib.validD s.data.toList = V at cV ⊢
  by_cases h0 : s.size ≤ 64
  · have h0z : (s.size : Int) ≤ 64 := by omega
    rw [decide_eq_true h0, Bool.true_and]
    go_enter Tryd.func114, Tryd.ntmps114
    go_wp2_with (go_at_call 113; refine cV.mono ?_; rintro e w' ⟨rfl, hb⟩)
    go_ret
    exact ⟨rfl, hb⟩
  · have h0z : ¬ ((s.size : Int) ≤ 64) := by omega
    rw [decide_eq_false h0, Bool.false_and]
    clear cV
    go_enter Tryd.func114, Tryd.ntmps114
    go_wp2
    go_ret
    exact ⟨rfl, Below.refl _ _⟩

/-! Bits of 16-bit numbers. -/
theorem bv_split (x y : BitVec 16) : x &&& ~~~y = x - (x &&& y) := by
  have h : (x &&& y) + (x &&& ~~~y) = x := by
    rw [BitVec.add_eq_or_of_and_eq_zero]
    · ext i hi
      simp
      cases x[i] <;> cases y[i] <;> rfl
    · ext i hi
      simp
      cases x[i] <;> cases y[i] <;> simp
  generalize x &&& y = a at h ⊢
  generalize x &&& ~~~y = b at h ⊢
  subst h
  bv_omega
theorem and_le (x y : BitVec 16) : (x &&& y).toNat ≤ x.toNat := by
  rw [BitVec.toNat_and]
  exact Nat.and_le_left
theorem of_u16 {c : Int} (h : 0 ≤ c ∧ c ≤ 65535) : ((BitVec.ofInt 16 c).toNat : Int) = c := by
  rw [BitVec.toNat_ofInt]
  omega
theorem wrap16 (n : Nat) (h : n < 65536) : IntKind.u16.wrap (n : Int) = (n : Int) := by
  simp [IntKind.wrap, IntKind.bits, IntKind.signed]
  omega
def andI (c m : Int) : Int := ((BitVec.ofInt 16 c &&& BitVec.ofInt 16 m).toNat : Int)
theorem and16 (c m : Int) : bits .and .u16 c m = andI c m := by
  show IntKind.u16.wrap ((BitVec.ofInt 16 c &&& BitVec.ofInt 16 m).toNat : Int) = _
  exact wrap16 _ (BitVec.isLt _)
theorem andI_bd {c m : Int} (hc : 0 ≤ c ∧ c ≤ 65535) : 0 ≤ andI c m ∧ andI c m ≤ c := by
  unfold andI
  have h1 := and_le (BitVec.ofInt 16 c) (BitVec.ofInt 16 m)
  have h2 := of_u16 hc
  omega
theorem andNot16 {c : Int} (m : Int) (hc : 0 ≤ c ∧ c ≤ 65535) : bits .andNot .u16 c m = c - andI c m := by
  show IntKind.u16.wrap ((BitVec.ofInt 16 c &&& ~~~BitVec.ofInt 16 m).toNat : Int) = _
  rw [wrap16 _ (BitVec.isLt _), bv_split]
  have h1 := and_le (BitVec.ofInt 16 c) (BitVec.ofInt 16 m)
  have h2 := of_u16 hc
  rw [BitVec.toNat_sub_of_le (by exact h1)]
  unfold andI
  omega
theorem and63 {c : Int} (hc : 0 ≤ c ∧ c ≤ 65535) : andI c 63 = c % 64 := by
  unfold andI
  have h2 := of_u16 hc
  rw [BitVec.toNat_and, show (BitVec.ofInt 16 63).toNat = 2 ^ 6 - 1 by decide, Nat.and_two_pow_sub_one_eq_mod]
  omega
theorem not63 {c : Int} (hc : 0 ≤ c ∧ c ≤ 65535) : bits .andNot .u16 c 63 = 0 ↔ c ≤ 63 := by
  rw [andNot16 63 hc, and63 hc]
  omega
def orI (c m : Int) : Int := ((BitVec.ofInt 16 c ||| BitVec.ofInt 16 m).toNat : Int)
theorem or16 (c m : Int) : bits .or .u16 c m = orI c m := by
  show IntKind.u16.wrap ((BitVec.ofInt 16 c ||| BitVec.ofInt 16 m).toNat : Int) = _
  exact wrap16 _ (BitVec.isLt _)
theorem orI_bd (c m : Int) : 0 ≤ orI c m ∧ orI c m ≤ 65535 := by
  unfold orI
  have := BitVec.isLt (BitVec.ofInt 16 c ||| BitVec.ofInt 16 m)
  omega
end Go.Proofs.YtnkojoajcdhngaaDoor
