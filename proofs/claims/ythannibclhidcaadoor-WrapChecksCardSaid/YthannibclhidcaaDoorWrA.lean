/- Layer 7: wrappers' texts and bits, in plain Lean, and the contracts of text. -/
import Derived.Test.YthannibclhidcaaDoorBase
import Derived.Test.YthannibclhidcaaDoorProg
import Derived.Ground.NamesProg
import Derived.Shelf.Lay
import Derived.Shelf.Unicode.ValidAny
import Derived.Laws.BitsAllLaws
import Derived.Lib.Hide
namespace Go.Proofs.YthannibclhidcaaDoor
set_option linter.unusedVariables false
set_option linter.unusedSimpArgs false
open Go.RowKit Go.Shelf Go.Lib

shelf_lay Lays.n196 Nm 196 at Tryd as Tryd.laysValid

def Tabs (w : World) : Prop := Lib.Utf8Tabs (Tryd.laysValid_ren.g 3) (Tryd.laysValid_ren.g 4) w

theorem mixed : Tryd.prog.follows .mixedOrders = true := by kernel_rfl

/-- May a wrapper's text be? -/
def okS (s : ByteArray) : Bool := decide (s.size ≤ 64) && Lib.validD s.data.toList

set_option maxHeartbeats 1000000 in
set_option maxRecDepth 1000000 in
theorem text_any (s : ByteArray) (w : World) (hT : Tabs w) (hs : s.size ≤ 9223372036854775807) :
    Calls Tryd.prog 12 #[.string s] w fun e w' => e = .returned (.bool (okS s)) ∧ Below w.heap.size w w' := by
  have cV : Calls Tryd.prog 14 #[.string s] w _ := Any.utf8_ValidString Tryd.laysValid s w hs hT
  unfold okS
  generalize Lib.validD s.data.toList = V at cV ⊢
  by_cases h0 : s.size ≤ 64
  · have h0z : (s.size : Int) ≤ 64 := by omega
    rw [decide_eq_true h0, Bool.true_and]
    go_enter Tryd.func12, Tryd.ntmps12
    go_wp2_with (go_at_call 14; refine cV.mono ?_; rintro e w' ⟨rfl, hb⟩)
    go_ret
    exact ⟨rfl, hb⟩
  · have h0z : ¬ ((s.size : Int) ≤ 64) := by omega
    rw [decide_eq_false h0, Bool.false_and]
    clear cV
    go_enter Tryd.func12, Tryd.ntmps12
    go_wp2
    go_ret
    exact ⟨rfl, Below.refl _ _⟩
set_option maxHeartbeats 1000000 in
set_option maxRecDepth 1000000 in
theorem rtext_any (s : ByteArray) (w : World) (hT : Tabs w) (hs : s.size ≤ 9223372036854775807) :
    Calls Tryd.prog 13 #[.string s] w fun e w' => e = .returned (.bool (okS s)) ∧ Below w.heap.size w w' := by
  have cV : Calls Tryd.prog 14 #[.string s] w _ := Any.utf8_ValidString Tryd.laysValid s w hs hT
  unfold okS
  generalize Lib.validD s.data.toList = V at cV ⊢
  by_cases h0 : s.size ≤ 64
  · have h0z : (s.size : Int) ≤ 64 := by omega
    rw [decide_eq_true h0, Bool.true_and]
    go_enter Tryd.func13, Tryd.ntmps13
    go_wp2_with (go_at_call 14; refine cV.mono ?_; rintro e w' ⟨rfl, hb⟩)
    go_ret
    exact ⟨rfl, hb⟩
  · have h0z : ¬ ((s.size : Int) ≤ 64) := by omega
    rw [decide_eq_false h0, Bool.false_and]
    clear cV
    go_enter Tryd.func13, Tryd.ntmps13
    go_wp2
    go_ret
    exact ⟨rfl, Below.refl _ _⟩

/-! Bits of 16-bit numbers. -/
theorem bv_split (x y : BitVec 16) : x &&& ~~~y = x - (x &&& y) := by
  have h : (x &&& y) + (x &&& ~~~y) = x := by
    rw [BitVec.add_eq_or_of_and_eq_zero]
    · ext i hi
      simp
      cases x[i] <;> cases y[i] <;> rfl
    · ext i hi
      simp
      cases x[i] <;> cases y[i] <;> simp
  generalize x &&& y = a at h ⊢
  generalize x &&& ~~~y = b at h ⊢
  subst h
  bv_omega
theorem and_le (x y : BitVec 16) : (x &&& y).toNat ≤ x.toNat := by
  rw [BitVec.toNat_and]
  exact Nat.and_le_left
theorem of_u16 {c : Int} (h : 0 ≤ c ∧ c ≤ 65535) : ((BitVec.ofInt 16 c).toNat : Int) = c := by
  rw [BitVec.toNat_ofInt]
  omega
theorem wrap16 (n : Nat) (h : n < 65536) : IntKind.u16.wrap (n : Int) = (n : Int) := by
  simp [IntKind.wrap, IntKind.bits, IntKind.signed]
  omega
def andI (c m : Int) : Int := ((BitVec.ofInt 16 c &&& BitVec.ofInt 16 m).toNat : Int)
theorem and16 (c m : Int) : bits .and .u16 c m = andI c m := by
  show IntKind.u16.wrap ((BitVec.ofInt 16 c &&& BitVec.ofInt 16 m).toNat : Int) = _
  exact wrap16 _ (BitVec.isLt _)
theorem andI_bd {c m : Int} (hc : 0 ≤ c ∧ c ≤ 65535) : 0 ≤ andI c m ∧ andI c m ≤ c := by
  unfold andI
  have h1 := and_le (BitVec.ofInt 16 c) (BitVec.ofInt 16 m)
  have h2 := of_u16 hc
  omega
theorem andNot16 {c : Int} (m : Int) (hc : 0 ≤ c ∧ c ≤ 65535) : bits .andNot .u16 c m = c - andI c m := by
  show IntKind.u16.wrap ((BitVec.ofInt 16 c &&& ~~~BitVec.ofInt 16 m).toNat : Int) = _
  rw [wrap16 _ (BitVec.isLt _), bv_split]
  have h1 := and_le (BitVec.ofInt 16 c) (BitVec.ofInt 16 m)
  have h2 := of_u16 hc
  rw [BitVec.toNat_sub_of_le (by exact h1)]
  unfold andI
  omega
theorem and63 {c : Int} (hc : 0 ≤ c ∧ c ≤ 65535) : andI c 63 = c % 64 := by
  unfold andI
  have h2 := of_u16 hc
  rw [BitVec.toNat_and, show (BitVec.ofInt 16 63).toNat = 2 ^ 6 - 1 by decide, Nat.and_two_pow_sub_one_eq_mod]
  omega
theorem not63 {c : Int} (hc : 0 ≤ c ∧ c ≤ 65535) : bits .andNot .u16 c 63 = 0 ↔ c ≤ 63 := by
  rw [andNot16 63 hc, and63 hc]
  omega
def orI (c m : Int) : Int := ((BitVec.ofInt 16 c ||| BitVec.ofInt 16 m).toNat : Int)
theorem or16 (c m : Int) : bits .or .u16 c m = orI c m := by
  show IntKind.u16.wrap ((BitVec.ofInt 16 c ||| BitVec.ofInt 16 m).toNat : Int) = _
  exact wrap16 _ (BitVec.isLt _)
theorem orI_bd (c m : Int) : 0 ≤ orI c m ∧ orI c m ≤ 65535 := by
  unfold orI
  have := BitVec.isLt (BitVec.ofInt 16 c ||| BitVec.ofInt 16 m)
  omega
end Go.Proofs.YthannibclhidcaaDoor
