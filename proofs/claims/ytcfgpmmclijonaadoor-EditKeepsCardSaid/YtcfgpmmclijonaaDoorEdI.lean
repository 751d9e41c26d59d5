/- Layer 25: the law's own key, is; alive. -/
import Derived.Test.YtcfgpmmclijonaaDoorEdH
namespace Go.Proofs.YtcfgpmmclijonaaDoor
set_option linter.unusedVariables false
set_option linter.unusedSimpArgs false
set_option maxRecDepth 100000
open Go.RowKit Go.Shelf Go.Lib
set_option maxRecDepth 100000
set_option maxHeartbeats 8000000

theorem lkey_any (s : ByteArray) (md : Nat) (w : World) : Calls Tryd.prog 22 #[.string s, .int .u8 (md : Int)] w fun e w' => e = .returned (.agg #[.string s, .int .u8 (md : Int)]) ∧ Below w.heap.size w w' := by
  go_enter Tryd.func22, Tryd.ntmps22
  go_wp2
  refine bodyPost_ret (v := .agg #[.string s, .int .u8 (md : Int)]) (by simp [results, Tryd.results22, go_sem, *]) rfl ⟨rfl, (Below.refl _ _).alloc (Nat.le_refl _) _⟩
theorem lis_any {w : World} {g : Nat} {b : ByteArray} {x y : Nat} {p q : Value} {k m : Nat} (h : EdAt w g b x y p q k m) (s : ByteArray) (a c : Nat) (o : Bool) (ho : txEq b s (x : Int) (a : Int) (y : Int) (c : Int) = o) :
    Calls Tryd.prog 23 #[.pointer (some ⟨g, 0, none⟩), .string s, .int .i64 (a : Int), .int .i64 (c : Int)] w fun e w' => e = .returned (.bool o) ∧ Below w.heap.size w w' := by
  have C := ltext_any h
  unfold txV at C
  clear h
  go_enter Tryd.func23, Tryd.ntmps23
  go_wp2_with fail
  with_reducible refine C.mono ?_
  rintro e w1 ⟨rfl, hb1⟩
  go_wp2
  go_ret
  exact ⟨rfl, hb1⟩
def abB : ByteArray := ⟨#[97, 98]⟩
theorem left2 : leftE [97, 98] 2 = 1 := by kernel_rfl
theorem left1 : leftE [97, 98] 1 = 0 := by kernel_rfl
theorem cat_xyb : (⟨#[97, 98]⟩ : ByteArray).extract 0 0 ++ ⟨#[120, 121]⟩ ++ (⟨#[97, 98]⟩ : ByteArray).extract 1 2 = ⟨#[120, 121, 98]⟩ := by decide
theorem set_xyb : settledE [120, 121, 98] 2 = 2 := by kernel_rfl
theorem tx_l0 : textT ⟨[108, 101, 102, 116], 0⟩ = .tuple #[.string ⟨#[108, 101, 102, 116]⟩, .int .i64 0] := by kernel_rfl
theorem tx_l1 : textT ⟨[108, 101, 102, 116], 1⟩ = .tuple #[.string ⟨#[115, 104, 105, 102, 116, 43, 108, 101, 102, 116]⟩, .int .i64 0] := by kernel_rfl
section
variable {w : World} {g : Nat} {p q : Value} {k m : Nat}
theorem key_l0 (hT : Tabs w) (h : EdAt w g ⟨#[97, 98]⟩ 2 2 p q k m) : Calls Tryd.prog 21 #[.pointer (some ⟨g, 0, none⟩), .agg #[.string ⟨#[108, 101, 102, 116]⟩, .int .u8 0]] w fun e w' => e = .returned (.tuple #[.bool true, .int .i64 0]) ∧ EdAt w' g ⟨#[97, 98]⟩ 1 1 p q k m ∧ w.grownBy w' (some g) := by
  have C := Key_left hT h (by decide) (by decide) 0 (by kernel_rfl) (by kernel_rfl) 0 (by kernel_rfl) false (by decide) _ tx_l0 false (by rw [show (ByteArray.mk #[97, 98]).data.toList = [97, 98] from rfl, left2]; decide)
  rw [show (ByteArray.mk #[97, 98]).data.toList = [97, 98] from rfl, left2] at C
  exact C
theorem key_l1 (hT : Tabs w) (h : EdAt w g ⟨#[97, 98]⟩ 1 1 p q k m) : Calls Tryd.prog 21 #[.pointer (some ⟨g, 0, none⟩), .agg #[.string ⟨#[108, 101, 102, 116]⟩, .int .u8 1]] w fun e w' => e = .returned (.tuple #[.bool true, .int .i64 0]) ∧ EdAt w' g ⟨#[97, 98]⟩ 0 1 p q k m ∧ w.grownBy w' (some g) := by
  have C := Key_left hT h (by decide) (by decide) 1 (by kernel_rfl) (by kernel_rfl) 1 (by kernel_rfl) true (by decide) _ tx_l1 false (by rw [show (ByteArray.mk #[97, 98]).data.toList = [97, 98] from rfl, left1]; decide)
  rw [show (ByteArray.mk #[97, 98]).data.toList = [97, 98] from rfl, left1] at C
  exact C
theorem type_xy {P : Option Addr} (h : EdAt w g ⟨#[97, 98]⟩ 0 1 (.pointer P) q 0 m) : Calls Tryd.prog 13 #[.pointer (some ⟨g, 0, none⟩), .string ⟨#[120, 121]⟩] w fun e w' => e = .returned (.int .i64 0) ∧ ∃ t, EdAt w' g ⟨#[120, 121, 98]⟩ 2 2 (.pointer (some ⟨t, 0, none⟩)) (.pointer none) 1 0 ∧ StAt w' t ⟨#[97, 98]⟩ 0 1 ⟨#[120, 121, 98]⟩ 2 2 (.pointer P) ∧
    w.heap.size ≤ t ∧ w.grownBy w' (some g) := by
  refine Type_of h ⟨#[120, 121]⟩ _ 0 fun w1 hb1 h1 => ?_
  have C := change_any h1 ⟨#[120, 121]⟩ 0 1 (by decide) (by decide) (by decide) (by decide) (by decide) (by decide) (by decide)
  refine C.mono ?_
  rintro e w2 ⟨t, z, rfl, hz, hE, hS, ht, hg⟩
  rw [show (ByteArray.mk #[97, 98]).size = 2 from rfl, cat_xyb] at hz hE hS
  have hz2 : z = 2 := by
    rw [hz]
    exact set_xyb
  subst hz2
  exact ⟨rfl, rfl, t, hE, hS, Nat.le_trans hb1.size ht, grown_below hb1 hg⟩
end
end Go.Proofs.YtcfgpmmclijonaaDoor
