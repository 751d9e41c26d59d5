/- Layer 5: the law's own helpers: weight, holds, numbers. (Printed by gen_x.py.) -/
import Derived.Test.YtoiondgcjbdonaaDoorStW
namespace Go.Proofs.YtoiondgcjbdonaaDoor
set_option linter.unusedVariables false
set_option linter.unusedSimpArgs false
set_option maxRecDepth 100000
open Go.RowKit Go.Shelf Go.Lib Go.Sort

theorem ones_tab : ((List.range 16).all fun s => (s == 0) || (Lib.onesCount s == s % 2 + Lib.onesCount (s / 2))) = true := by kernel_rfl
theorem ones_half {s : Nat} (h : s < 16) (h0 : 0 < s) : Lib.onesCount s = s % 2 + Lib.onesCount (s / 2) := by
  have t := List.all_eq_true.1 ones_tab s (List.mem_range.2 h)
  simp only [Bool.or_eq_true, beq_iff_eq] at t
  rcases t with t | t
  · omega
  · exact t
set_option maxHeartbeats 2000000 in
set_option maxRecDepth 100000 in
theorem lweight_any (r : Ru) (hst : r.st ≤ 15) (w : World) : Calls Tryd.prog 26 #[.agg #[.int .u8 (r.kind : Int), .string r.cls, .int .u8 (r.st : Int), .int .u8 (r.look.has : Int), .int .u8 (r.look.col.r : Int), .int .u8 (r.look.col.g : Int), .int .u8 (r.look.col.b : Int), .int .u8 (r.look.col.a : Int), .int .u8 (r.look.bak.r : Int), .int .u8 (r.look.bak.g : Int), .int .u8 (r.look.bak.b : Int), .int .u8 (r.look.bak.a : Int), .bool r.look.brd, .int .i64 r.look.pad]] w fun e w' => e = .returned (.int .i64 (keyR r : Int)) ∧ Below w.heap.size w w' := by
  have hk : keyR r = Lib.onesCount r.st * 4 + (if r.cls.size = 0 then 0 else 2) + (if r.kind = 0 then 0 else 1) := rfl
  have h8 := ones_lt r.st (by omega)
  generalize keyR r = K at *
  have z1 : (r.cls.size = 0 ∧ r.cls.toList = []) ∨ (¬ r.cls.size = 0 ∧ r.cls.toList.isEmpty = false) := by
    by_cases h : r.cls.size = 0
    · exact .inl ⟨h, bytes_nil h⟩
    · exact .inr ⟨h, bytes_some h⟩
  have z2 : (r.kind = 0 ∧ ((r.kind : Int) != 0) = false) ∨ (¬ r.kind = 0 ∧ ((r.kind : Int) != 0) = true) := by
    by_cases h : r.kind = 0
    · exact .inl ⟨h, by simp [h]⟩
    · exact .inr ⟨h, by simp; omega⟩
  have HK := hid hk
  have H8 := hid h8
  have HS := hid hst
  clear hk h8
  rcases z1 with ⟨a1, z1⟩ | ⟨a1, z1⟩ <;> rcases z2 with ⟨a2, z2⟩ | ⟨a2, z2⟩
  all_goals
    have A1 := hid a1
    have A2 := hid a2
    clear a1 a2
    go_enter Tryd.func26, Tryd.ntmps26
    go_wp2
    go_loop [3, 4] (fun n s => ∃ (a b : Nat), n = .int .i64 (a : Int) ∧ s = .int .i64 (b : Int) ∧ b ≤ 15 ∧ a ≤ 32 ∧ Hid (a + 4 * Lib.onesCount b = 4 * Lib.onesCount r.st)) (fun _ s => (intOf s).toNat)
    case atStart => exact ⟨0, r.st, rfl, rfl, HS.out, by omega, hid (by omega)⟩
    case round =>
      obtain ⟨a, b, rfl, rfl, hb, ha, HI⟩ := hrel
      by_cases h0 : 0 < b
      · have hz : (0 : Int) < (b : Int) := by omega
        have hh := hid (ones_half (by omega) h0)
        have hle : a + 4 * (b % 2) ≤ 32 := by have := HI.out; have := hh.out; have := H8.out; omega
        go_wp2
        go_round
        case rel => exact ⟨a + 4 * (b % 2), b / 2, by go_num, by go_num, by omega, hle, hid (by have := HI.out; have := hh.out; omega)⟩
        case measure => simp [intOf]; omega
      · obtain rfl : b = 0 := by omega
        have ho : Lib.onesCount 0 = 0 := rfl
        have HI2 : Hid (a = 4 * Lib.onesCount r.st) := hid (by have := HI.out; omega)
        clear ho
        go_wp2
        go_ret
        refine ⟨ret_int ?_, (by repeat (first | exact Below.refl _ _ | with_reducible refine Below.alloc ?_ (by first | (simp; done) | (simp; omega) | omega) _ | with_reducible refine Below.setCell ?_ (by first | (simp; done) | (simp; omega) | omega) _ | with_reducible refine Below.drew ?_ | with_reducible refine Below.trans ?_ (Below.mono (by assumption) (by first | (simp; done) | (simp; omega) | omega))))⟩
        rw [HK.out]
        have := HI2.out
        first
          | (rw [if_pos A1.out, if_pos A2.out]; omega)
          | (rw [if_pos A1.out, if_neg A2.out]; omega)
          | (rw [if_neg A1.out, if_pos A2.out]; omega)
          | (rw [if_neg A1.out, if_neg A2.out]; omega)

/-- A rule that tells the pad alone. -/
def padRu (r : Ru) : Ru := ⟨r.kind, r.cls, r.st, ⟨8, Cl.zero, Cl.zero, false, 7⟩⟩
theorem padRu_in {r : Ru} (h : r.In) : ∀ x ∈ [padRu r], x.In := by
  intro x hx
  simp only [List.mem_singleton] at hx
  subst hx
  exact ⟨h.1, h.2.1, ⟨show 8 < 256 by omega, (show Cl.zero.In by unfold Cl.In; decide), (show Cl.zero.In by unfold Cl.In; decide)⟩, h.2.2.2⟩
theorem padRu_chk {r : Ru} (h : okR r = true) : chkE [padRu r] = 0 := by
  have h2 : okR (padRu r) = true := by
    unfold okR at h ⊢
    simp only [Bool.and_eq_true] at h ⊢
    exact ⟨h.1, h.2.1, h.2.2.1, h.2.2.2.1, h.2.2.2.2.1, (rfl : mayL ⟨8, Cl.zero, Cl.zero, false, 7⟩ = true)⟩
  unfold chkE
  rw [if_neg (by simp)]
  have : okAll [padRu r] = true := by
    unfold okAll
    rw [List.all_cons, h2]; rfl
  rw [if_pos this]
theorem padRu_which (r : Ru) (kind : Nat) (cls : List UInt8) (st : Nat) : whichR [padRu r] kind cls st 8 = if holdsL r kind cls st then 0 else -1 := by
  unfold whichR
  have e : ordN [padRu r] = [0] := ordL_one _
  rw [e]
  have : toldR [padRu r] kind cls st 8 0 = holdsL r kind cls st := by
    unfold toldR hR fR
    simp only [List.getElem?_cons_zero, Option.map_some, Option.getD_some]
    have h1 : holdsL (padRu r) kind cls st = holdsL r kind cls st := rfl
    have h2 : tl (padRu r).look.has ((8 : Nat) : Int) = true := by kernel_rfl
    rw [h1, h2, Bool.and_true]
  show (if toldR [padRu r] kind cls st 8 0 = true then ((0 : Nat) : Int) else -1) = _
  rw [this]
  rfl
set_option maxHeartbeats 2000000 in
set_option maxRecDepth 100000 in
theorem lholds_any (r : Ru) (hr : r.In) (hok : okR r = true) (kind st : Nat) (hst : st < 256) (cls : ByteArray) (hs : cls.size ≤ 5000) (w : World) (hT : Tabs w) :
    Calls Tryd.prog 25 #[.agg #[.int .u8 (r.kind : Int), .string r.cls, .int .u8 (r.st : Int), .int .u8 (r.look.has : Int), .int .u8 (r.look.col.r : Int), .int .u8 (r.look.col.g : Int), .int .u8 (r.look.col.b : Int), .int .u8 (r.look.col.a : Int), .int .u8 (r.look.bak.r : Int), .int .u8 (r.look.bak.g : Int), .int .u8 (r.look.bak.b : Int), .int .u8 (r.look.bak.a : Int), .bool r.look.brd, .int .i64 r.look.pad], .int .u8 (kind : Int), .string cls, .int .u8 (st : Int)] w fun e w' => e = .returned (.bool (holdsL r kind cls.data.toList st)) ∧ Below w.heap.size w w' := by
  have hb : Below w.heap.size w ((w.alloc (.cells #[.int .u8 (r.kind : Int), .string r.cls, .int .u8 (r.st : Int), .int .u8 8, .int .u8 0, .int .u8 0, .int .u8 0, .int .u8 0, .int .u8 0, .int .u8 0, .int .u8 0, .int .u8 0, .bool false, .int .i64 7] 46)).alloc (.cells #[.int .u8 (r.kind : Int), .string r.cls, .int .u8 (r.st : Int), .int .u8 8, .int .u8 0, .int .u8 0, .int .u8 0, .int .u8 0, .int .u8 0, .int .u8 0, .int .u8 0, .int .u8 0, .bool false, .int .i64 7] 46)) := ((Below.refl _ _).alloc (Nat.le_refl _) _).alloc (by simp) _
  have hA : At ((w.alloc (.cells #[.int .u8 (r.kind : Int), .string r.cls, .int .u8 (r.st : Int), .int .u8 8, .int .u8 0, .int .u8 0, .int .u8 0, .int .u8 0, .int .u8 0, .int .u8 0, .int .u8 0, .int .u8 0, .bool false, .int .i64 7] 46)).alloc (.cells #[.int .u8 (r.kind : Int), .string r.cls, .int .u8 (r.st : Int), .int .u8 8, .int .u8 0, .int .u8 0, .int .u8 0, .int .u8 0, .int .u8 0, .int .u8 0, .int .u8 0, .int .u8 0, .bool false, .int .i64 7] 46)).heap.size ((w.alloc (.cells #[.int .u8 (r.kind : Int), .string r.cls, .int .u8 (r.st : Int), .int .u8 8, .int .u8 0, .int .u8 0, .int .u8 0, .int .u8 0, .int .u8 0, .int .u8 0, .int .u8 0, .int .u8 0, .bool false, .int .i64 7] 46)).alloc (.cells #[.int .u8 (r.kind : Int), .string r.cls, .int .u8 (r.st : Int), .int .u8 8, .int .u8 0, .int .u8 0, .int .u8 0, .int .u8 0, .int .u8 0, .int .u8 0, .int .u8 0, .int .u8 0, .bool false, .int .i64 7] 46)) (some ⟨w.heap.size + 1, 0, none⟩) (rus [padRu r]) := At.rules (heap_alloc2_new w (.cells #[.int .u8 (r.kind : Int), .string r.cls, .int .u8 (r.st : Int), .int .u8 8, .int .u8 0, .int .u8 0, .int .u8 0, .int .u8 0, .int .u8 0, .int .u8 0, .int .u8 0, .int .u8 0, .bool false, .int .i64 7] 46) (.cells #[.int .u8 (r.kind : Int), .string r.cls, .int .u8 (r.st : Int), .int .u8 8, .int .u8 0, .int .u8 0, .int .u8 0, .int .u8 0, .int .u8 0, .int .u8 0, .int .u8 0, .int .u8 0, .bool false, .int .i64 7] 46)) rfl
  have C : Calls Tryd.prog 14 #[.slice (some ⟨w.heap.size + 1, 0, none⟩) 1 1, .int .u8 (kind : Int), .string cls, .int .u8 (st : Int), .int .u8 8] ((w.alloc (.cells #[.int .u8 (r.kind : Int), .string r.cls, .int .u8 (r.st : Int), .int .u8 8, .int .u8 0, .int .u8 0, .int .u8 0, .int .u8 0, .int .u8 0, .int .u8 0, .int .u8 0, .int .u8 0, .bool false, .int .i64 7] 46)).alloc (.cells #[.int .u8 (r.kind : Int), .string r.cls, .int .u8 (r.st : Int), .int .u8 8, .int .u8 0, .int .u8 0, .int .u8 0, .int .u8 0, .int .u8 0, .int .u8 0, .int .u8 0, .int .u8 0, .bool false, .int .i64 7] 46)) fun e w' => e = .returned (.tuple #[.int .i64 (whichR [padRu r] kind cls.data.toList st 8), .int .i64 0]) ∧ Below ((w.alloc (.cells #[.int .u8 (r.kind : Int), .string r.cls, .int .u8 (r.st : Int), .int .u8 8, .int .u8 0, .int .u8 0, .int .u8 0, .int .u8 0, .int .u8 0, .int .u8 0, .int .u8 0, .int .u8 0, .bool false, .int .i64 7] 46)).alloc (.cells #[.int .u8 (r.kind : Int), .string r.cls, .int .u8 (r.st : Int), .int .u8 8, .int .u8 0, .int .u8 0, .int .u8 0, .int .u8 0, .int .u8 0, .int .u8 0, .int .u8 0, .int .u8 0, .bool false, .int .i64 7] 46)).heap.size ((w.alloc (.cells #[.int .u8 (r.kind : Int), .string r.cls, .int .u8 (r.st : Int), .int .u8 8, .int .u8 0, .int .u8 0, .int .u8 0, .int .u8 0, .int .u8 0, .int .u8 0, .int .u8 0, .int .u8 0, .bool false, .int .i64 7] 46)).alloc (.cells #[.int .u8 (r.kind : Int), .string r.cls, .int .u8 (r.st : Int), .int .u8 8, .int .u8 0, .int .u8 0, .int .u8 0, .int .u8 0, .int .u8 0, .int .u8 0, .int .u8 0, .int .u8 0, .bool false, .int .i64 7] 46)) w' :=
    Which_ok _ _ 1 [padRu r] (padRu_in hr) _ (tabs_on hT hb) hA (Nat.le_refl _) kind st 8 hst cls hs (padRu_chk hok) (by unfold FieldOk; omega)
  rw [padRu_which] at C
  have hb2 := hb.size
  have HB := hid hb
  clear hA hb hT
  cases hH : holdsL r kind cls.data.toList st
  all_goals
    rw [hH] at C
    have HC := hid C
    clear C hH
    go_enter Tryd.func25, Tryd.ntmps25
    go_wp2_with fail
    refine (HC.out).mono ?_
    rintro e w1 ⟨rfl, hb1⟩
    go_wp2
    go_ret
    exact ⟨rfl, HB.out.trans (hb1.mono hb2)⟩
end Go.Proofs.YtoiondgcjbdonaaDoor
