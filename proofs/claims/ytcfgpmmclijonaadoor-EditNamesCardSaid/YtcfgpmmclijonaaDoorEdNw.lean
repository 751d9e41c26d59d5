/- Layer 25: the walk of EditNames. Printed by gen_en.py. -/
import Derived.Test.YtcfgpmmclijonaaDoorEdNm
namespace Go.Proofs.YtcfgpmmclijonaaDoor
set_option linter.unusedVariables false
set_option linter.unusedSimpArgs false
set_option maxRecDepth 100000
open Go.RowKit Go.Shelf Go.Lib
set_option maxRecDepth 100000
set_option maxHeartbeats 16000000

theorem ok_o_7_7 (p q : Option Addr) (k m : Nat) : EdOk ⟨⟨#[111, 110, 101, 32, 116, 119, 111]⟩, 7, 7, p, q, k, m⟩ := ⟨of_decide_eq_true (by kernel_rfl), ⟨7, of_decide_eq_true (by kernel_rfl), by kernel_rfl⟩, ⟨7, of_decide_eq_true (by kernel_rfl), by kernel_rfl⟩⟩
theorem ok_o_4_4 (p q : Option Addr) (k m : Nat) : EdOk ⟨⟨#[111, 110, 101, 32, 116, 119, 111]⟩, 4, 4, p, q, k, m⟩ := ⟨of_decide_eq_true (by kernel_rfl), ⟨4, of_decide_eq_true (by kernel_rfl), by kernel_rfl⟩, ⟨4, of_decide_eq_true (by kernel_rfl), by kernel_rfl⟩⟩
theorem ok_o_3_3 (p q : Option Addr) (k m : Nat) : EdOk ⟨⟨#[111, 110, 101, 32, 116, 119, 111]⟩, 3, 3, p, q, k, m⟩ := ⟨of_decide_eq_true (by kernel_rfl), ⟨3, of_decide_eq_true (by kernel_rfl), by kernel_rfl⟩, ⟨3, of_decide_eq_true (by kernel_rfl), by kernel_rfl⟩⟩
theorem ok_n_4_4 (p q : Option Addr) (k m : Nat) : EdOk ⟨⟨#[111, 110, 101, 32]⟩, 4, 4, p, q, k, m⟩ := ⟨of_decide_eq_true (by kernel_rfl), ⟨4, of_decide_eq_true (by kernel_rfl), by kernel_rfl⟩, ⟨4, of_decide_eq_true (by kernel_rfl), by kernel_rfl⟩⟩
theorem ok_n_4_0 (p q : Option Addr) (k m : Nat) : EdOk ⟨⟨#[111, 110, 101, 32]⟩, 4, 0, p, q, k, m⟩ := ⟨of_decide_eq_true (by kernel_rfl), ⟨4, of_decide_eq_true (by kernel_rfl), by kernel_rfl⟩, ⟨0, of_decide_eq_true (by kernel_rfl), by kernel_rfl⟩⟩
theorem ok_e_0_0 (p q : Option Addr) (k m : Nat) : EdOk ⟨⟨#[]⟩, 0, 0, p, q, k, m⟩ := ⟨of_decide_eq_true (by kernel_rfl), ⟨0, of_decide_eq_true (by kernel_rfl), by kernel_rfl⟩, ⟨0, of_decide_eq_true (by kernel_rfl), by kernel_rfl⟩⟩
theorem ok_w_6_6 (p q : Option Addr) (k m : Nat) : EdOk ⟨⟨#[119, 105, 110, 100, 111, 119]⟩, 6, 6, p, q, k, m⟩ := ⟨of_decide_eq_true (by kernel_rfl), ⟨6, of_decide_eq_true (by kernel_rfl), by kernel_rfl⟩, ⟨6, of_decide_eq_true (by kernel_rfl), by kernel_rfl⟩⟩
theorem ok_w_0_0 (p q : Option Addr) (k m : Nat) : EdOk ⟨⟨#[119, 105, 110, 100, 111, 119]⟩, 0, 0, p, q, k, m⟩ := ⟨of_decide_eq_true (by kernel_rfl), ⟨0, of_decide_eq_true (by kernel_rfl), by kernel_rfl⟩, ⟨0, of_decide_eq_true (by kernel_rfl), by kernel_rfl⟩⟩
theorem ke1 : keyE ⟨#[111, 110, 101, 32, 116, 119, 111]⟩ 7 7 ⟨#[108, 101, 102, 116]⟩ 2 = .go 4 4 := by kernel_rfl
theorem ke2 : keyE ⟨#[111, 110, 101, 32, 116, 119, 111]⟩ 4 4 ⟨#[108, 101, 102, 116]⟩ 2 = .go 3 3 := by kernel_rfl
theorem ke3 : keyE ⟨#[111, 110, 101, 32, 116, 119, 111]⟩ 3 3 ⟨#[114, 105, 103, 104, 116]⟩ 2 = .go 4 4 := by kernel_rfl
theorem ke4 : keyE ⟨#[111, 110, 101, 32, 116, 119, 111]⟩ 4 4 ⟨#[101, 110, 100]⟩ 2 = .go 7 7 := by kernel_rfl
theorem ke5 : keyE ⟨#[111, 110, 101, 32, 116, 119, 111]⟩ 7 7 ⟨#[98, 97, 99, 107, 115, 112, 97, 99, 101]⟩ 2 = .ed ⟨#[]⟩ 4 7 := by kernel_rfl
theorem ke6 : keyE ⟨#[111, 110, 101, 32]⟩ 4 4 ⟨#[97]⟩ 2 = .go 4 0 := by kernel_rfl
theorem ke7 : keyE ⟨#[111, 110, 101, 32]⟩ 4 0 ⟨#[100, 101, 108, 101, 116, 101]⟩ 0 = .ed ⟨#[]⟩ 0 4 := by kernel_rfl
theorem ke8 : keyE ⟨#[]⟩ 0 0 ⟨#[100, 101, 108, 101, 116, 101]⟩ 0 = .ed ⟨#[]⟩ 0 0 := by kernel_rfl
theorem ke9 : keyE ⟨#[]⟩ 0 0 ⟨#[120]⟩ 4 = .no := by kernel_rfl
theorem ct5 : cat3 ⟨#[111, 110, 101, 32, 116, 119, 111]⟩ ⟨#[]⟩ 4 7 = ⟨#[111, 110, 101, 32]⟩ := by decide
theorem ct7 : cat3 ⟨#[111, 110, 101, 32]⟩ ⟨#[]⟩ 0 4 = ⟨#[]⟩ := by decide
theorem st5 : settledE (⟨#[111, 110, 101, 32]⟩ : ByteArray).data.toList (4 + (⟨#[]⟩ : ByteArray).size) = 4 := by kernel_rfl
theorem st7 : settledE (⟨#[]⟩ : ByteArray).data.toList (0 + (⟨#[]⟩ : ByteArray).size) = 0 := by kernel_rfl
theorem sh6 : (⟨#[119, 105, 110, 100, 111, 119]⟩ : ByteArray).extract (showA ⟨#[119, 105, 110, 100, 111, 119]⟩ 6 3) (showZ ⟨#[119, 105, 110, 100, 111, 119]⟩ 6 3) = ⟨#[111, 119]⟩ ∧ showC ⟨#[119, 105, 110, 100, 111, 119]⟩ 6 3 = 2 := by
  have h1 : showA ⟨#[119, 105, 110, 100, 111, 119]⟩ 6 3 = 4 := by kernel_rfl
  have h2 : showZ ⟨#[119, 105, 110, 100, 111, 119]⟩ 6 3 = 6 := by kernel_rfl
  rw [h1, h2]
  exact ⟨by decide, by kernel_rfl⟩
theorem sh0 : (⟨#[119, 105, 110, 100, 111, 119]⟩ : ByteArray).extract (showA ⟨#[119, 105, 110, 100, 111, 119]⟩ 0 3) (showZ ⟨#[119, 105, 110, 100, 111, 119]⟩ 0 3) = ⟨#[119, 105, 110]⟩ ∧ showC ⟨#[119, 105, 110, 100, 111, 119]⟩ 0 3 = 0 := by
  have h1 : showA ⟨#[119, 105, 110, 100, 111, 119]⟩ 0 3 = 0 := by kernel_rfl
  have h2 : showZ ⟨#[119, 105, 110, 100, 111, 119]⟩ 0 3 = 3 := by kernel_rfl
  rw [h1, h2]
  exact ⟨by decide, by kernel_rfl⟩
theorem stw : settledE (⟨#[119, 105, 110, 100, 111, 119]⟩ : ByteArray).data.toList 0 = 0 := by kernel_rfl
theorem walkEditNames (w : World) (hT : Tabs w) : Calls Tryd.prog 6 #[] w fun e w' => e = .returned (.bool true) ∧ Below w.heap.size w w' := by
  have HT := hid hT
  clear hT
  have hbp := (Below.refl w.heap.size w).alloc (Nat.le_refl _) (.cells #[.bool false, .string ⟨#[]⟩, .int .i64 0, .int .i64 0, .pointer none, .pointer none, .int .i64 0, .int .i64 0] 56)
  have HP0 := hid (noed_plain (w := w.alloc (.cells #[.bool false, .string ⟨#[]⟩, .int .i64 0, .int .i64 0, .pointer none, .pointer none, .int .i64 0, .int .i64 0] 56)) (g := w.heap.size) (World.alloc_heap_new _ _))
  have C1 := Text_no (noed_nil (w.alloc (.cells #[.bool false, .string ⟨#[]⟩, .int .i64 0, .int .i64 0, .pointer none, .pointer none, .int .i64 0, .int .i64 0] 56)))
  go_enter Tryd.func6, Tryd.ntmps6
  go_wp2_with fail
  with_reducible refine C1.mono ?_
  rintro e w1 ⟨rfl, hb1⟩
  have hba := (Below.refl w1.heap.size w1).alloc (Nat.le_refl _) (.cells #[.string { data := #[] }, .int .i64 0, .int .i64 0] 31)
  have hb1a := hb1.trans (hba.mono hb1.size)
  have HP1 := hid (HP0.out.on hb1a)
  have hB1 := hbp.trans (hb1a.mono hbp.size)
  have C2 := Chosen_no HP1.out
  clear C1 HP0 hb1 hba hb1a hbp
  go_wp2_with fail
  with_reducible refine C2.mono ?_
  rintro e w2 ⟨rfl, hb2⟩
  have hB2 := hB1.trans (hb2.mono hB1.size)
  have HP2 := hid (HP1.out.on hb2)
  clear C2 hb2 HP1
  have C3 : Calls Tryd.prog 22 #[.string ⟨#[97]⟩, .int .u8 0] w2 fun e w' => e = .returned (.agg #[.string ⟨#[97]⟩, .int .u8 0]) ∧ Below w2.heap.size w2 w' := lkey_any _ 0 w2
  go_wp2_with fail
  with_reducible refine C3.mono ?_
  rintro e w3 ⟨rfl, hb3⟩
  have hB3 := hB2.trans (hb3.mono hB2.size)
  have HP3 := hid (HP2.out.on hb3)
  clear C3 hb3 HP2
  have C4 : Calls Tryd.prog 21 #[.pointer none, .agg #[.string ⟨#[97]⟩, .int .u8 0]] w3 fun e w' => e = .returned (.tuple #[.bool false, .int .i64 1]) ∧ Below w3.heap.size w3 w' := Key_no (noed_nil w3) ⟨#[97]⟩ 0
  go_wp2_with fail
  with_reducible refine C4.mono ?_
  rintro e w4 ⟨rfl, hb4⟩
  have hB4 := hB3.trans (hb4.mono hB3.size)
  have HP4 := hid (HP3.out.on hb4)
  clear C4 hb4 HP3
  have C5 := Undo_no HP4.out
  go_wp2_with fail
  with_reducible refine C5.mono ?_
  rintro e w5 ⟨rfl, hb5⟩
  have hB5 := hB4.trans (hb5.mono hB4.size)
  have HP5 := hid (HP4.out.on hb5)
  clear C5 hb5 HP4
  have C6 := Show_no (noed_nil w5) 3
  go_wp2_with fail
  with_reducible refine C6.mono ?_
  rintro e w6 ⟨rfl, hb6⟩
  have hB6 := hB5.trans (hb6.mono hB5.size)
  have HP6 := hid (HP5.out.on hb6)
  clear C6 hb6 HP5
  have C7 := Depth_no (noed_nil w6)
  go_wp2_with fail
  with_reducible refine C7.mono ?_
  rintro e w7 ⟨rfl, hb7⟩
  have hB7 := hB6.trans (hb7.mono hB6.size)
  have HP7 := hid (HP6.out.on hb7)
  clear C7 hb7 HP6
  have C8 := Type_no HP7.out ⟨#[97]⟩
  go_wp2_with fail
  with_reducible refine C8.mono ?_
  rintro e w8 ⟨rfl, hb8⟩
  have hB8 := hB7.trans (hb8.mono hB7.size)
  clear C8 hb8 HP7
  have C9 := Move_no (noed_nil w8) 0 false
  go_wp2_with fail
  with_reducible refine C9.mono ?_
  rintro e w9 ⟨rfl, hb9⟩
  have hB9 := hB8.trans (hb9.mono hB8.size)
  clear C9 hb9
  have C10 := New_any ⟨#[111, 110, 101, 32, 116, 119, 111]⟩ w9 (by decide)
  go_wp2_with fail
  with_reducible refine C10.mono ?_
  rintro e w10 ⟨g, hg, rfl, h10, hb10⟩
  have hg0 : w.heap.size ≤ g := Nat.le_trans hB9.size hg
  have hB10 := hB9.trans (hb10.mono hB9.size)
  have HE10 : Hid (EdS w10 g ⟨⟨#[111, 110, 101, 32, 116, 119, 111]⟩, 7, 7, none, none, 0, 0⟩) := hid h10
  clear C10 hb10 h10 hg
  have C11 := alive_any w10 (tabs_on HT.out hB10)
  go_wp2_with fail
  with_reducible refine C11.mono ?_
  rintro e w11 ⟨rfl, hb11⟩
  have hB11 := hB10.trans (hb11.mono hB10.size)
  have HE11 : Hid (EdS w11 g ⟨⟨#[111, 110, 101, 32, 116, 119, 111]⟩, 7, 7, none, none, 0, 0⟩) := hid (HE10.out.on hb11)
  clear C11 hb11 HE10
  have C12 : Calls Tryd.prog 22 #[.string ⟨#[108, 101, 102, 116]⟩, .int .u8 2] w11 fun e w' => e = .returned (.agg #[.string ⟨#[108, 101, 102, 116]⟩, .int .u8 2]) ∧ Below w11.heap.size w11 w' := lkey_any _ 2 w11
  go_wp2_with fail
  with_reducible refine C12.mono ?_
  rintro e w12 ⟨rfl, hb12⟩
  have hB12 := hB11.trans (hb12.mono hB11.size)
  have HE12 : Hid (EdS w12 g ⟨⟨#[111, 110, 101, 32, 116, 119, 111]⟩, 7, 7, none, none, 0, 0⟩) := hid (HE11.out.on hb12)
  clear C12 hb12 HE11
  have C13 : Calls Tryd.prog 21 #[.pointer (some ⟨g, 0, none⟩), .agg #[.string ⟨#[108, 101, 102, 116]⟩, .int .u8 2]] w12 fun e w' => e = .returned (.tuple #[.bool true, .int .i64 0]) ∧ EdS w' g ⟨⟨#[111, 110, 101, 32, 116, 119, 111]⟩, 4, 4, none, none, 0, 0⟩ ∧ w12.grownBy w' (some g) := key_go (tabs_on HT.out hB12) HE12.out (ok_o_7_7 _ _ _ _) (of_decide_eq_true (by kernel_rfl)) ⟨#[108, 101, 102, 116]⟩ 2 (by kernel_rfl) (by decide) (by decide) ke1 (d := true) (by kernel_rfl)
  go_wp2_with fail
  with_reducible refine C13.mono ?_
  rintro e w13 ⟨rfl, h13, hg13⟩
  have hB13 := grown_b hB12 hg13 hg0
  have HE13 := hid h13
  clear C13 h13 hg13 HE12
  have C14 : Calls Tryd.prog 23 #[.pointer (some ⟨g, 0, none⟩), .string ⟨#[111, 110, 101, 32, 116, 119, 111]⟩, .int .i64 4, .int .i64 4] w13 fun e w' => e = .returned (.bool true) ∧ Below w13.heap.size w13 w' := lis_any HE13.out ⟨#[111, 110, 101, 32, 116, 119, 111]⟩ 4 4 true (by kernel_rfl)
  go_wp2_with fail
  with_reducible refine C14.mono ?_
  rintro e w14 ⟨rfl, hb14⟩
  have hB14 := hB13.trans (hb14.mono hB13.size)
  have HE14 : Hid (EdS w14 g ⟨⟨#[111, 110, 101, 32, 116, 119, 111]⟩, 4, 4, none, none, 0, 0⟩) := hid (HE13.out.on hb14)
  clear C14 hb14 HE13
  have C15 : Calls Tryd.prog 22 #[.string ⟨#[108, 101, 102, 116]⟩, .int .u8 2] w14 fun e w' => e = .returned (.agg #[.string ⟨#[108, 101, 102, 116]⟩, .int .u8 2]) ∧ Below w14.heap.size w14 w' := lkey_any _ 2 w14
  go_wp2_with fail
  with_reducible refine C15.mono ?_
  rintro e w15 ⟨rfl, hb15⟩
  have hB15 := hB14.trans (hb15.mono hB14.size)
  have HE15 : Hid (EdS w15 g ⟨⟨#[111, 110, 101, 32, 116, 119, 111]⟩, 4, 4, none, none, 0, 0⟩) := hid (HE14.out.on hb15)
  clear C15 hb15 HE14
  have C16 : Calls Tryd.prog 21 #[.pointer (some ⟨g, 0, none⟩), .agg #[.string ⟨#[108, 101, 102, 116]⟩, .int .u8 2]] w15 fun e w' => e = .returned (.tuple #[.bool true, .int .i64 0]) ∧ EdS w' g ⟨⟨#[111, 110, 101, 32, 116, 119, 111]⟩, 3, 3, none, none, 0, 0⟩ ∧ w15.grownBy w' (some g) := key_go (tabs_on HT.out hB15) HE15.out (ok_o_4_4 _ _ _ _) (of_decide_eq_true (by kernel_rfl)) ⟨#[108, 101, 102, 116]⟩ 2 (by kernel_rfl) (by decide) (by decide) ke2 (d := true) (by kernel_rfl)
  go_wp2_with fail
  with_reducible refine C16.mono ?_
  rintro e w16 ⟨rfl, h16, hg16⟩
  have hB16 := grown_b hB15 hg16 hg0
  have HE16 := hid h16
  clear C16 h16 hg16 HE15
  have C17 : Calls Tryd.prog 23 #[.pointer (some ⟨g, 0, none⟩), .string ⟨#[111, 110, 101, 32, 116, 119, 111]⟩, .int .i64 3, .int .i64 3] w16 fun e w' => e = .returned (.bool true) ∧ Below w16.heap.size w16 w' := lis_any HE16.out ⟨#[111, 110, 101, 32, 116, 119, 111]⟩ 3 3 true (by kernel_rfl)
  go_wp2_with fail
  with_reducible refine C17.mono ?_
  rintro e w17 ⟨rfl, hb17⟩
  have hB17 := hB16.trans (hb17.mono hB16.size)
  have HE17 : Hid (EdS w17 g ⟨⟨#[111, 110, 101, 32, 116, 119, 111]⟩, 3, 3, none, none, 0, 0⟩) := hid (HE16.out.on hb17)
  clear C17 hb17 HE16
  have C18 : Calls Tryd.prog 22 #[.string ⟨#[114, 105, 103, 104, 116]⟩, .int .u8 2] w17 fun e w' => e = .returned (.agg #[.string ⟨#[114, 105, 103, 104, 116]⟩, .int .u8 2]) ∧ Below w17.heap.size w17 w' := lkey_any _ 2 w17
  go_wp2_with fail
  with_reducible refine C18.mono ?_
  rintro e w18 ⟨rfl, hb18⟩
  have hB18 := hB17.trans (hb18.mono hB17.size)
  have HE18 : Hid (EdS w18 g ⟨⟨#[111, 110, 101, 32, 116, 119, 111]⟩, 3, 3, none, none, 0, 0⟩) := hid (HE17.out.on hb18)
  clear C18 hb18 HE17
  have C19 : Calls Tryd.prog 21 #[.pointer (some ⟨g, 0, none⟩), .agg #[.string ⟨#[114, 105, 103, 104, 116]⟩, .int .u8 2]] w18 fun e w' => e = .returned (.tuple #[.bool true, .int .i64 0]) ∧ EdS w' g ⟨⟨#[111, 110, 101, 32, 116, 119, 111]⟩, 4, 4, none, none, 0, 0⟩ ∧ w18.grownBy w' (some g) := key_go (tabs_on HT.out hB18) HE18.out (ok_o_3_3 _ _ _ _) (of_decide_eq_true (by kernel_rfl)) ⟨#[114, 105, 103, 104, 116]⟩ 2 (by kernel_rfl) (by decide) (by decide) ke3 (d := true) (by kernel_rfl)
  go_wp2_with fail
  with_reducible refine C19.mono ?_
  rintro e w19 ⟨rfl, h19, hg19⟩
  have hB19 := grown_b hB18 hg19 hg0
  have HE19 := hid h19
  clear C19 h19 hg19 HE18
  have C20 : Calls Tryd.prog 23 #[.pointer (some ⟨g, 0, none⟩), .string ⟨#[111, 110, 101, 32, 116, 119, 111]⟩, .int .i64 4, .int .i64 4] w19 fun e w' => e = .returned (.bool true) ∧ Below w19.heap.size w19 w' := lis_any HE19.out ⟨#[111, 110, 101, 32, 116, 119, 111]⟩ 4 4 true (by kernel_rfl)
  go_wp2_with fail
  with_reducible refine C20.mono ?_
  rintro e w20 ⟨rfl, hb20⟩
  have hB20 := hB19.trans (hb20.mono hB19.size)
  have HE20 : Hid (EdS w20 g ⟨⟨#[111, 110, 101, 32, 116, 119, 111]⟩, 4, 4, none, none, 0, 0⟩) := hid (HE19.out.on hb20)
  clear C20 hb20 HE19
  have C21 : Calls Tryd.prog 22 #[.string ⟨#[101, 110, 100]⟩, .int .u8 2] w20 fun e w' => e = .returned (.agg #[.string ⟨#[101, 110, 100]⟩, .int .u8 2]) ∧ Below w20.heap.size w20 w' := lkey_any _ 2 w20
  go_wp2_with fail
  with_reducible refine C21.mono ?_
  rintro e w21 ⟨rfl, hb21⟩
  have hB21 := hB20.trans (hb21.mono hB20.size)
  have HE21 : Hid (EdS w21 g ⟨⟨#[111, 110, 101, 32, 116, 119, 111]⟩, 4, 4, none, none, 0, 0⟩) := hid (HE20.out.on hb21)
  clear C21 hb21 HE20
  have C22 : Calls Tryd.prog 21 #[.pointer (some ⟨g, 0, none⟩), .agg #[.string ⟨#[101, 110, 100]⟩, .int .u8 2]] w21 fun e w' => e = .returned (.tuple #[.bool true, .int .i64 0]) ∧ EdS w' g ⟨⟨#[111, 110, 101, 32, 116, 119, 111]⟩, 7, 7, none, none, 0, 0⟩ ∧ w21.grownBy w' (some g) := key_go (tabs_on HT.out hB21) HE21.out (ok_o_4_4 _ _ _ _) (of_decide_eq_true (by kernel_rfl)) ⟨#[101, 110, 100]⟩ 2 (by kernel_rfl) (by decide) (by decide) ke4 (d := true) (by kernel_rfl)
  go_wp2_with fail
  with_reducible refine C22.mono ?_
  rintro e w22 ⟨rfl, h22, hg22⟩
  have hB22 := grown_b hB21 hg22 hg0
  have HE22 := hid h22
  clear C22 h22 hg22 HE21
  have C23 : Calls Tryd.prog 22 #[.string ⟨#[98, 97, 99, 107, 115, 112, 97, 99, 101]⟩, .int .u8 2] w22 fun e w' => e = .returned (.agg #[.string ⟨#[98, 97, 99, 107, 115, 112, 97, 99, 101]⟩, .int .u8 2]) ∧ Below w22.heap.size w22 w' := lkey_any _ 2 w22
  go_wp2_with fail
  with_reducible refine C23.mono ?_
  rintro e w23 ⟨rfl, hb23⟩
  have hB23 := hB22.trans (hb23.mono hB22.size)
  have HE23 : Hid (EdS w23 g ⟨⟨#[111, 110, 101, 32, 116, 119, 111]⟩, 7, 7, none, none, 0, 0⟩) := hid (HE22.out.on hb23)
  clear C23 hb23 HE22
  have C24 : Calls Tryd.prog 21 #[.pointer (some ⟨g, 0, none⟩), .agg #[.string ⟨#[98, 97, 99, 107, 115, 112, 97, 99, 101]⟩, .int .u8 2]] w23 fun e w' => ∃ t, e = .returned (.tuple #[.bool true, .int .i64 0]) ∧ EdS w' g ⟨⟨#[111, 110, 101, 32]⟩, 4, 4, some ⟨t, 0, none⟩, none, 1, 0⟩ ∧ w23.grownBy w' (some g) := key_ed (tabs_on HT.out hB23) HE23.out (ok_o_7_7 _ _ _ _) (of_decide_eq_true (by kernel_rfl)) ⟨#[98, 97, 99, 107, 115, 112, 97, 99, 101]⟩ 2 (by kernel_rfl) (by decide) (by decide) ke5 (of_decide_eq_true (by kernel_rfl)) (by decide) ct5 st5 (d := true) (by kernel_rfl)
  go_wp2_with fail
  with_reducible refine C24.mono ?_
  rintro e w24 ⟨t1, rfl, h24, hg24⟩
  have hB24 := grown_b hB23 hg24 hg0
  have HE24 := hid h24
  clear C24 h24 hg24 HE23
  have C25 : Calls Tryd.prog 23 #[.pointer (some ⟨g, 0, none⟩), .string ⟨#[111, 110, 101, 32]⟩, .int .i64 4, .int .i64 4] w24 fun e w' => e = .returned (.bool true) ∧ Below w24.heap.size w24 w' := lis_any HE24.out ⟨#[111, 110, 101, 32]⟩ 4 4 true (by kernel_rfl)
  go_wp2_with fail
  with_reducible refine C25.mono ?_
  rintro e w25 ⟨rfl, hb25⟩
  have hB25 := hB24.trans (hb25.mono hB24.size)
  have HE25 : Hid (EdS w25 g ⟨⟨#[111, 110, 101, 32]⟩, 4, 4, some ⟨t1, 0, none⟩, none, 1, 0⟩) := hid (HE24.out.on hb25)
  clear C25 hb25 HE24
  have C26 : Calls Tryd.prog 22 #[.string ⟨#[97]⟩, .int .u8 2] w25 fun e w' => e = .returned (.agg #[.string ⟨#[97]⟩, .int .u8 2]) ∧ Below w25.heap.size w25 w' := lkey_any _ 2 w25
  go_wp2_with fail
  with_reducible refine C26.mono ?_
  rintro e w26 ⟨rfl, hb26⟩
  have hB26 := hB25.trans (hb26.mono hB25.size)
  have HE26 : Hid (EdS w26 g ⟨⟨#[111, 110, 101, 32]⟩, 4, 4, some ⟨t1, 0, none⟩, none, 1, 0⟩) := hid (HE25.out.on hb26)
  clear C26 hb26 HE25
  have C27 : Calls Tryd.prog 21 #[.pointer (some ⟨g, 0, none⟩), .agg #[.string ⟨#[97]⟩, .int .u8 2]] w26 fun e w' => e = .returned (.tuple #[.bool true, .int .i64 0]) ∧ EdS w' g ⟨⟨#[111, 110, 101, 32]⟩, 4, 0, some ⟨t1, 0, none⟩, none, 1, 0⟩ ∧ w26.grownBy w' (some g) := key_go (tabs_on HT.out hB26) HE26.out (ok_n_4_4 _ _ _ _) (of_decide_eq_true (by kernel_rfl)) ⟨#[97]⟩ 2 (by kernel_rfl) (by decide) (by decide) ke6 (d := true) (by kernel_rfl)
  go_wp2_with fail
  with_reducible refine C27.mono ?_
  rintro e w27 ⟨rfl, h27, hg27⟩
  have hB27 := grown_b hB26 hg27 hg0
  have HE27 := hid h27
  clear C27 h27 hg27 HE26
  have C28 : Calls Tryd.prog 22 #[.string ⟨#[100, 101, 108, 101, 116, 101]⟩, .int .u8 0] w27 fun e w' => e = .returned (.agg #[.string ⟨#[100, 101, 108, 101, 116, 101]⟩, .int .u8 0]) ∧ Below w27.heap.size w27 w' := lkey_any _ 0 w27
  go_wp2_with fail
  with_reducible refine C28.mono ?_
  rintro e w28 ⟨rfl, hb28⟩
  have hB28 := hB27.trans (hb28.mono hB27.size)
  have HE28 : Hid (EdS w28 g ⟨⟨#[111, 110, 101, 32]⟩, 4, 0, some ⟨t1, 0, none⟩, none, 1, 0⟩) := hid (HE27.out.on hb28)
  clear C28 hb28 HE27
  have C29 : Calls Tryd.prog 21 #[.pointer (some ⟨g, 0, none⟩), .agg #[.string ⟨#[100, 101, 108, 101, 116, 101]⟩, .int .u8 0]] w28 fun e w' => ∃ t, e = .returned (.tuple #[.bool true, .int .i64 0]) ∧ EdS w' g ⟨⟨#[]⟩, 0, 0, some ⟨t, 0, none⟩, none, 2, 0⟩ ∧ w28.grownBy w' (some g) := key_ed (tabs_on HT.out hB28) HE28.out (ok_n_4_0 _ _ _ _) (of_decide_eq_true (by kernel_rfl)) ⟨#[100, 101, 108, 101, 116, 101]⟩ 0 (by kernel_rfl) (by decide) (by decide) ke7 (of_decide_eq_true (by kernel_rfl)) (by decide) ct7 st7 (d := true) (by kernel_rfl)
  go_wp2_with fail
  with_reducible refine C29.mono ?_
  rintro e w29 ⟨t2, rfl, h29, hg29⟩
  have hB29 := grown_b hB28 hg29 hg0
  have HE29 := hid h29
  clear C29 h29 hg29 HE28
  have C30 : Calls Tryd.prog 22 #[.string ⟨#[100, 101, 108, 101, 116, 101]⟩, .int .u8 0] w29 fun e w' => e = .returned (.agg #[.string ⟨#[100, 101, 108, 101, 116, 101]⟩, .int .u8 0]) ∧ Below w29.heap.size w29 w' := lkey_any _ 0 w29
  go_wp2_with fail
  with_reducible refine C30.mono ?_
  rintro e w30 ⟨rfl, hb30⟩
  have hB30 := hB29.trans (hb30.mono hB29.size)
  have HE30 : Hid (EdS w30 g ⟨⟨#[]⟩, 0, 0, some ⟨t2, 0, none⟩, none, 2, 0⟩) := hid (HE29.out.on hb30)
  clear C30 hb30 HE29
  have C31 : Calls Tryd.prog 21 #[.pointer (some ⟨g, 0, none⟩), .agg #[.string ⟨#[100, 101, 108, 101, 116, 101]⟩, .int .u8 0]] w30 fun e w' => e = .returned (.tuple #[.bool false, .int .i64 0]) ∧ EdS w' g ⟨⟨#[]⟩, 0, 0, some ⟨t2, 0, none⟩, none, 2, 0⟩ ∧ w30.grownBy w' (some g) := key_no (tabs_on HT.out hB30) HE30.out (ok_e_0_0 _ _ _ _) (of_decide_eq_true (by kernel_rfl)) ⟨#[100, 101, 108, 101, 116, 101]⟩ 0 (by kernel_rfl) (by decide) (by decide) (.inr ⟨0, ke8⟩)
  go_wp2_with fail
  with_reducible refine C31.mono ?_
  rintro e w31 ⟨rfl, h31, hg31⟩
  have hB31 := grown_b hB30 hg31 hg0
  have HE31 := hid h31
  clear C31 h31 hg31 HE30
  have C32 : Calls Tryd.prog 22 #[.string ⟨#[120]⟩, .int .u8 4] w31 fun e w' => e = .returned (.agg #[.string ⟨#[120]⟩, .int .u8 4]) ∧ Below w31.heap.size w31 w' := lkey_any _ 4 w31
  go_wp2_with fail
  with_reducible refine C32.mono ?_
  rintro e w32 ⟨rfl, hb32⟩
  have hB32 := hB31.trans (hb32.mono hB31.size)
  have HE32 : Hid (EdS w32 g ⟨⟨#[]⟩, 0, 0, some ⟨t2, 0, none⟩, none, 2, 0⟩) := hid (HE31.out.on hb32)
  clear C32 hb32 HE31
  have C33 : Calls Tryd.prog 21 #[.pointer (some ⟨g, 0, none⟩), .agg #[.string ⟨#[120]⟩, .int .u8 4]] w32 fun e w' => e = .returned (.tuple #[.bool false, .int .i64 0]) ∧ EdS w' g ⟨⟨#[]⟩, 0, 0, some ⟨t2, 0, none⟩, none, 2, 0⟩ ∧ w32.grownBy w' (some g) := key_no (tabs_on HT.out hB32) HE32.out (ok_e_0_0 _ _ _ _) (of_decide_eq_true (by kernel_rfl)) ⟨#[120]⟩ 4 (by kernel_rfl) (by decide) (by decide) (.inl ke9)
  go_wp2_with fail
  with_reducible refine C33.mono ?_
  rintro e w33 ⟨rfl, h33, hg33⟩
  have hB33 := grown_b hB32 hg33 hg0
  have HE33 := hid h33
  clear C33 h33 hg33 HE32
  have C34 : Calls Tryd.prog 22 #[.string ⟨#[]⟩, .int .u8 0] w33 fun e w' => e = .returned (.agg #[.string ⟨#[]⟩, .int .u8 0]) ∧ Below w33.heap.size w33 w' := lkey_any _ 0 w33
  go_wp2_with fail
  with_reducible refine C34.mono ?_
  rintro e w34 ⟨rfl, hb34⟩
  have hB34 := hB33.trans (hb34.mono hB33.size)
  have HE34 : Hid (EdS w34 g ⟨⟨#[]⟩, 0, 0, some ⟨t2, 0, none⟩, none, 2, 0⟩) := hid (HE33.out.on hb34)
  clear C34 hb34 HE33
  have C35 : Calls Tryd.prog 21 #[.pointer (some ⟨g, 0, none⟩), .agg #[.string ⟨#[]⟩, .int .u8 0]] w34 fun e w' => e = .returned (.tuple #[.bool false, .int .i64 210]) ∧ EdS w' g ⟨⟨#[]⟩, 0, 0, some ⟨t2, 0, none⟩, none, 2, 0⟩ ∧ w34.grownBy w' (some g) := Key_bad (tabs_on HT.out hB34) HE34.out ⟨#[]⟩ 0 (by kernel_rfl)
  go_wp2_with fail
  with_reducible refine C35.mono ?_
  rintro e w35 ⟨rfl, h35, hg35⟩
  have hB35 := grown_b hB34 hg35 hg0
  have HE35 := hid h35
  clear C35 h35 hg35 HE34
  have C36 : Calls Tryd.prog 23 #[.pointer (some ⟨g, 0, none⟩), .string ⟨#[]⟩, .int .i64 0, .int .i64 0] w35 fun e w' => e = .returned (.bool true) ∧ Below w35.heap.size w35 w' := lis_any HE35.out ⟨#[]⟩ 0 0 true (by kernel_rfl)
  go_wp2_with fail
  with_reducible refine C36.mono ?_
  rintro e w36 ⟨rfl, hb36⟩
  have hB36 := hB35.trans (hb36.mono hB35.size)
  have HE36 : Hid (EdS w36 g ⟨⟨#[]⟩, 0, 0, some ⟨t2, 0, none⟩, none, 2, 0⟩) := hid (HE35.out.on hb36)
  clear C36 hb36 HE35
  have C37 := Move_bad HE36.out 1 (.inr (of_decide_eq_true (by kernel_rfl))) false
  go_wp2_with fail
  with_reducible refine C37.mono ?_
  rintro e w37 ⟨rfl, hb37⟩
  have hB37 := hB36.trans (hb37.mono hB36.size)
  clear C37 hb37 HE36
  have C38 := New_any ⟨#[119, 105, 110, 100, 111, 119]⟩ w37 (by decide)
  go_wp2_with fail
  with_reducible refine C38.mono ?_
  rintro e w38 ⟨k, hk, rfl, h38, hb38⟩
  have hk0 : w.heap.size ≤ k := Nat.le_trans hB37.size hk
  have hB38 := hB37.trans (hb38.mono hB37.size)
  have HE38 : Hid (EdS w38 k ⟨⟨#[119, 105, 110, 100, 111, 119]⟩, 6, 6, none, none, 0, 0⟩) := hid h38
  clear C38 hb38 h38 hk
  have C39 : Calls Tryd.prog 18 #[.pointer (some ⟨k, 0, none⟩), .int .i64 3] w38 fun e w' => e = .returned (.tuple #[.string ⟨#[111, 119]⟩, .int .i64 2, .int .i64 0]) ∧ Below w38.heap.size w38 w' := by
    have q := Show_any HE38.out (by decide) (ok_w_6_6 none none 0 0).2.1 3 (by decide) (by decide)
    simp only [sh6.1, sh6.2] at q
    exact q
  go_wp2_with fail
  with_reducible refine C39.mono ?_
  rintro e w39 ⟨rfl, hb39⟩
  have hB39 := hB38.trans (hb39.mono hB38.size)
  have HE39 : Hid (EdS w39 k ⟨⟨#[119, 105, 110, 100, 111, 119]⟩, 6, 6, none, none, 0, 0⟩) := hid (HE38.out.on hb39)
  clear C39 hb39 HE38
  have C40 : Calls Tryd.prog 9 #[.pointer (some ⟨k, 0, none⟩), .int .i64 0, .bool false] w39 fun e w' => e = .returned (.int .i64 0) ∧ EdS w' k ⟨⟨#[119, 105, 110, 100, 111, 119]⟩, 0, 0, none, none, 0, 0⟩ ∧ w39.grownBy w' (some k) := by
    have q := Move_any HE39.out (by decide) 0 (by decide) false
    simp only [stw] at q
    exact q
  go_wp2_with fail
  with_reducible refine C40.mono ?_
  rintro e w40 ⟨rfl, h40, hg40⟩
  have hB40 := grown_b hB39 hg40 hk0
  have HE40 := hid h40
  clear C40 h40 hg40 HE39
  have C41 : Calls Tryd.prog 18 #[.pointer (some ⟨k, 0, none⟩), .int .i64 3] w40 fun e w' => e = .returned (.tuple #[.string ⟨#[119, 105, 110]⟩, .int .i64 0, .int .i64 0]) ∧ Below w40.heap.size w40 w' := by
    have q := Show_any HE40.out (by decide) (ok_w_0_0 none none 0 0).2.1 3 (by decide) (by decide)
    simp only [sh0.1, sh0.2] at q
    exact q
  go_wp2_with fail
  with_reducible refine C41.mono ?_
  rintro e w41 ⟨rfl, hb41⟩
  have hB41 := hB40.trans (hb41.mono hB40.size)
  have HE41 : Hid (EdS w41 k ⟨⟨#[119, 105, 110, 100, 111, 119]⟩, 0, 0, none, none, 0, 0⟩) := hid (HE40.out.on hb41)
  clear C41 hb41 HE40
  have C42 := Show_bad HE41.out 0 (by left; decide)
  go_wp2_with fail
  with_reducible refine C42.mono ?_
  rintro e w42 ⟨rfl, hb42⟩
  have hB42 := hB41.trans (hb42.mono hB41.size)
  clear C42 hb42 HE41
  go_wp2
  go_ret
  exact ⟨rfl, hB42⟩
end Go.Proofs.YtcfgpmmclijonaaDoor
