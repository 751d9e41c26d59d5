/- Layer 25: alive. -/
import Derived.Test.YtcfgpmmclijonaaDoorEdGh
namespace Go.Proofs.YtcfgpmmclijonaaDoor
set_option linter.unusedVariables false
set_option linter.unusedSimpArgs false
set_option maxRecDepth 100000
open Go.RowKit Go.Shelf Go.Lib
set_option maxRecDepth 100000
set_option maxHeartbeats 8000000

theorem grown_b {w wr w' : World} {g : Nat} (hb : Below w.heap.size w wr) (hg : wr.grownBy w' (some g)) (h : w.heap.size ≤ g) : Below w.heap.size w w' := hb.grown hg hb.size (fun k hk => by
  injection hk with hk
  omega)
theorem alive_any (w : World) (hT : Tabs w) : Calls Tryd.prog 8 #[] w fun e w' => e = .returned (.bool true) ∧ Below w.heap.size w w' := by
  have C1 := New_any ⟨#[97, 98]⟩ w (by decide)
  have HT := hid hT
  clear hT
  go_enter Tryd.func8, Tryd.ntmps8
  go_wp2_with fail
  with_reducible refine C1.mono ?_
  rintro e w1 ⟨g, hg0, rfl, h1, hb1⟩
  have h1 : EdAt w1 g ⟨#[97, 98]⟩ 2 2 (.pointer none) (.pointer none) 0 0 := h1
  have H1 := hid h1
  have C2 : Calls Tryd.prog 23 #[.pointer (some ⟨g, 0, none⟩), .string ⟨#[97, 98]⟩, .int .i64 2, .int .i64 2] w1 fun e w' => e = .returned (.bool true) ∧ Below w1.heap.size w1 w' := lis_any h1 ⟨#[97, 98]⟩ 2 2 true (by decide)
  clear C1 h1
  go_wp2_with fail
  with_reducible refine C2.mono ?_
  rintro e w2 ⟨rfl, hb2⟩
  have hB2 := hb1.trans (hb2.mono hb1.size)
  have H2 := hid (H1.out.on hb2)
  have C3 : Calls Tryd.prog 22 #[.string ⟨#[108, 101, 102, 116]⟩, .int .u8 0] w2 fun e w' => e = .returned (.agg #[.string ⟨#[108, 101, 102, 116]⟩, .int .u8 0]) ∧ Below w2.heap.size w2 w' := lkey_any _ 0 w2
  clear C2 H1 hb1 hb2
  go_wp2_with fail
  with_reducible refine C3.mono ?_
  rintro e w3 ⟨rfl, hb3⟩
  have hB3 := hB2.trans (hb3.mono hB2.size)
  have C4 := key_l0 (tabs_on HT.out hB3) (H2.out.on hb3)
  clear C3 H2 hb3 hB2
  go_wp2_with fail
  with_reducible refine C4.mono ?_
  rintro e w4 ⟨rfl, h4, hg4⟩
  have hB4 := grown_b hB3 hg4 hg0
  have H4 := hid h4
  have C5 : Calls Tryd.prog 22 #[.string ⟨#[108, 101, 102, 116]⟩, .int .u8 1] w4 fun e w' => e = .returned (.agg #[.string ⟨#[108, 101, 102, 116]⟩, .int .u8 1]) ∧ Below w4.heap.size w4 w' := lkey_any _ 1 w4
  clear C4 h4 hg4 hB3
  go_wp2_with fail
  with_reducible refine C5.mono ?_
  rintro e w5 ⟨rfl, hb5⟩
  have hB5 := hB4.trans (hb5.mono hB4.size)
  have C6 := key_l1 (tabs_on HT.out hB5) (H4.out.on hb5)
  clear C5 H4 hb5 hB4
  go_wp2_with fail
  with_reducible refine C6.mono ?_
  rintro e w6 ⟨rfl, h6, hg6⟩
  have hB6 := grown_b hB5 hg6 hg0
  have H6 := hid h6
  have C7 : Calls Tryd.prog 12 #[.pointer (some ⟨g, 0, none⟩)] w6 fun e w' => e = .returned (.tuple #[.string ⟨#[97]⟩, .int .i64 0]) ∧ Below w6.heap.size w6 w' := Chosen_any h6 (by decide) (by decide)
  clear C6 h6 hg6 hB5
  go_wp2_with fail
  with_reducible refine C7.mono ?_
  rintro e w7 ⟨rfl, hb7⟩
  have hB7 := hB6.trans (hb7.mono hB6.size)
  have C8 := type_xy (H6.out.on hb7)
  clear C7 H6 hb7 hB6
  go_wp2_with fail
  with_reducible refine C8.mono ?_
  rintro e w8 ⟨rfl, t, h8, s8, ht8, hg8⟩
  have hB8 := grown_b hB7 hg8 hg0
  have H8 := hid h8
  have S8 := hid s8
  have C9 : Calls Tryd.prog 23 #[.pointer (some ⟨g, 0, none⟩), .string ⟨#[120, 121, 98]⟩, .int .i64 2, .int .i64 2] w8 fun e w' => e = .returned (.bool true) ∧ Below w8.heap.size w8 w' := lis_any h8 ⟨#[120, 121, 98]⟩ 2 2 true (by decide)
  have hgt : g ≠ t := by
    have := hB7.size
    intro e
    subst e
    have h1 := h8
    have h2 := s8
    unfold EdAt at h1
    unfold StAt at h2
    rw [h1] at h2
    simp [edC, stC] at h2
  clear C8 h8 s8 hg8 hB7
  go_wp2_with fail
  with_reducible refine C9.mono ?_
  rintro e w9 ⟨rfl, hb9⟩
  have hB9 := hB8.trans (hb9.mono hB8.size)
  have C10 := Undo_any (k := 0) (H8.out.on hb9) (S8.out.on hb9) hgt (by decide) (by decide)
  clear C9 H8 S8 hb9 hB8
  go_wp2_with fail
  with_reducible refine C10.mono ?_
  rintro e w10 ⟨t', rfl, h10, s10, ht10, hg10⟩
  have hB10 := grown_b hB9 hg10 hg0
  have C11 : Calls Tryd.prog 23 #[.pointer (some ⟨g, 0, none⟩), .string ⟨#[97, 98]⟩, .int .i64 0, .int .i64 1] w10 fun e w' => e = .returned (.bool true) ∧ Below w10.heap.size w10 w' := lis_any h10 ⟨#[97, 98]⟩ 0 1 true (by decide)
  clear C10 h10 s10 hg10 hB9
  go_wp2_with fail
  with_reducible refine C11.mono ?_
  rintro e w11 ⟨rfl, hb11⟩
  go_wp2
  go_ret
  exact ⟨rfl, hB10.trans (hb11.mono hB10.size)⟩
end Go.Proofs.YtcfgpmmclijonaaDoor
