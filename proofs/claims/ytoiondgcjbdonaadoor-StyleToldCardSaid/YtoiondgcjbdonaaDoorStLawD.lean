/- Layer 5: StyleTold: the walk. (Printed by gen_ld.py.) -/
import Derived.Test.YtoiondgcjbdonaaDoorStX
import Derived.Test.YtoiondgcjbdonaaDoorStLawA
namespace Go.Proofs.YtoiondgcjbdonaaDoor
set_option linter.unusedVariables false
set_option linter.unusedSimpArgs false
set_option maxRecDepth 100000
open Go.RowKit Go.Shelf Go.Lib Go.Sort

/-- What the look of all tells of a thing, if a rule tells it. -/
theorem told_look {L : List Ru} (hin : ∀ r ∈ L, r.In) (kind : Nat) (cls : List UInt8) (st : Nat) :
    (foldO (fR L) (hR L kind cls st) (ordN L) Lk.none) = four (fR L) (whichR L kind cls st 1) (whichR L kind cls st 2) (whichR L kind cls st 4) (whichR L kind cls st 8) := (four_look L hin kind cls st).symm
theorem which_holds {L : List Ru} {kind : Nat} {cls : List UInt8} {st field : Nat} {a : Nat} (ha : a < L.length) (h : whichR L kind cls st field = (a : Int)) : holdsL L[a] kind cls st = true ∧ tl L[a].look.has (field : Int) = true := by
  obtain ⟨i, _, h2, h3⟩ := whichL_mem (P := toldR L kind cls st field) (o := ordN L) (by unfold whichR at h; rw [h]; omega)
  unfold whichR at h
  rw [h] at h3
  obtain rfl : a = i := by omega
  unfold toldR at h2
  rw [hR_get ha, fR_get ha] at h2
  simpa using h2
theorem four_has0 (f : Nat → Lk) (n0 n1 n2 n3 : Int) : tl (four f n0 n1 n2 n3).has 1 = decide (0 ≤ n0) ∧ tl (four f n0 n1 n2 n3).has 2 = decide (0 ≤ n1) ∧ tl (four f n0 n1 n2 n3).has 4 = decide (0 ≤ n2) ∧ tl (four f n0 n1 n2 n3).has 8 = decide (0 ≤ n3) := by
  have hlt : (four f n0 n1 n2 n3).has < 256 := by
    have := nib_lt (decide (0 ≤ n0)) (decide (0 ≤ n1)) (decide (0 ≤ n2)) (decide (0 ≤ n3))
    show nib _ _ _ _ < 256
    omega
  obtain ⟨h0, h1, h2, h3⟩ := mk4_bits (decide (0 ≤ n0)) (decide (0 ≤ n1)) (decide (0 ≤ n2)) (decide (0 ≤ n3)) (lookAt f n0).col (lookAt f n1).bak (lookAt f n2).brd (lookAt f n3).pad
  rw [tl1 hlt, tl2 hlt, tl4 hlt, tl8 hlt]
  exact ⟨h0, h1, h2, h3⟩
theorem four_fields (f : Nat → Lk) (n0 n1 n2 n3 : Int) : (∀ a : Nat, n0 = (a : Int) → (four f n0 n1 n2 n3).col = (f a).col) ∧ (∀ a : Nat, n1 = (a : Int) → (four f n0 n1 n2 n3).bak = (f a).bak) ∧ (∀ a : Nat, n2 = (a : Int) → (four f n0 n1 n2 n3).brd = (f a).brd) ∧ (∀ a : Nat, n3 = (a : Int) → (four f n0 n1 n2 n3).pad = (f a).pad) := by
  have e : ∀ a : Nat, lookAt f (a : Int) = f a := fun a => by unfold lookAt; rw [if_neg (by omega), Int.toNat_natCast]
  refine ⟨?_, ?_, ?_, ?_⟩
  all_goals
    rintro a rfl
    unfold four mk4
    simp only [e]
    rw [if_pos (by simp)]

section
variable (w : World) (hT : Tabs w) (A : Option Addr) (c : Nat) (L : List Ru) (hin : ∀ r ∈ L, r.In) (hA : At w.heap.size w A (rus L)) (hlc : L.length ≤ c) (hcm : c ≤ maxLen) (kind : Nat) (hk : kind < 256) (cls : ByteArray) (hs : cls.size ≤ 9223372036854775807) (st : Nat) (hst : st < 256)
set_option linter.unusedSectionVars false
include hT hin hA hlc hcm hk hs hst
set_option maxHeartbeats 8000000
set_option maxRecDepth 100000
theorem told_great (h : 100 < L.length ∨ 5000 < cls.size) : Calls Tryd.prog 7 #[.slice A L.length c, .int .u8 (kind : Int), .string cls, .int .u8 (st : Int)] w fun e w' => e = .returned (.bool true) ∧ Below w.heap.size w w' := by
  have CA := alive_any w hT
  have hcases : (100 : Int) < (L.length : Int) ∨ ((L.length : Int) ≤ 100 ∧ (5000 : Int) < (cls.size : Int)) := by omega
  unfold maxLen at hcm
  clear hT hA hin h
  rcases hcases with h1 | ⟨h1, h2⟩
  all_goals
    go_enter Tryd.func7, Tryd.ntmps7
    go_wp2_with (go_at_call 10; refine CA.mono ?_; rintro e w1 ⟨rfl, hb1⟩)
    go_ret
    exact ⟨rfl, hb1⟩
theorem told_bad (h1 : L.length ≤ 100) (h2 : cls.size ≤ 5000) (hc : chkE L ≠ 0) : Calls Tryd.prog 7 #[.slice A L.length c, .int .u8 (kind : Int), .string cls, .int .u8 (st : Int)] w fun e w' => e = .returned (.bool true) ∧ Below w.heap.size w w' := by
  have CA := alive_any w hT
  have CL : Hid (∀ x, Below w.heap.size w x → Calls Tryd.prog 13 #[.slice A L.length c, .int .u8 (kind : Int), .string cls, .int .u8 (st : Int)] x fun e w' => e = .returned (.tuple #[.agg #[.int .u8 0, .int .u8 0, .int .u8 0, .int .u8 0, .int .u8 0, .int .u8 0, .int .u8 0, .int .u8 0, .int .u8 0, .bool false, .int .i64 0], .int .i64 (chkE L)]) ∧ Below x.heap.size x w') := hid fun x hb => Look_bad w.heap.size A c L hin x (tabs_on hT hb) (hA.below hb) hb.size (by omega) kind st cls hc
  generalize chkE L = E at *
  have hz : (E != 0) = true := by simpa using hc
  have z1 : (L.length : Int) ≤ 100 := by omega
  have z2 : (cls.size : Int) ≤ 5000 := by omega
  unfold maxLen at hcm
  clear hT hA hin hc
  go_enter Tryd.func7, Tryd.ntmps7
  go_wp2_with fail
  refine CA.mono ?_
  rintro e w1 ⟨rfl, hb1⟩
  have HB1 := hid hb1
  clear hb1 CA
  go_wp2_with fail
  refine (CL.out _ HB1.out).mono ?_
  rintro e w3 ⟨rfl, hb3⟩
  have HB3 := hid (HB1.out.trans (hb3.mono HB1.out.size))
  clear hb3
  go_wp2
  go_ret
  exact ⟨rfl, HB3.out.alloc HB3.out.size _⟩
theorem told_ok (h1 : L.length ≤ 100) (h2 : cls.size ≤ 5000) (hc : chkE L = 0) : Calls Tryd.prog 7 #[.slice A L.length c, .int .u8 (kind : Int), .string cls, .int .u8 (st : Int)] w fun e w' => e = .returned (.bool true) ∧ Below w.heap.size w w' := by
  have CA := alive_any w hT
  have hok := (chk_ok hc).2
  have CL : Hid (∀ x, Below w.heap.size w x → Calls Tryd.prog 13 #[.slice A L.length c, .int .u8 (kind : Int), .string cls, .int .u8 (st : Int)] x fun e w' => e = .returned (.tuple #[.agg #[.int .u8 ((foldO (fR L) (hR L kind cls.data.toList st) (ordN L) Lk.none).has : Int), .int .u8 ((foldO (fR L) (hR L kind cls.data.toList st) (ordN L) Lk.none).col.r : Int), .int .u8 ((foldO (fR L) (hR L kind cls.data.toList st) (ordN L) Lk.none).col.g : Int), .int .u8 ((foldO (fR L) (hR L kind cls.data.toList st) (ordN L) Lk.none).col.b : Int), .int .u8 ((foldO (fR L) (hR L kind cls.data.toList st) (ordN L) Lk.none).col.a : Int), .int .u8 ((foldO (fR L) (hR L kind cls.data.toList st) (ordN L) Lk.none).bak.r : Int), .int .u8 ((foldO (fR L) (hR L kind cls.data.toList st) (ordN L) Lk.none).bak.g : Int), .int .u8 ((foldO (fR L) (hR L kind cls.data.toList st) (ordN L) Lk.none).bak.b : Int), .int .u8 ((foldO (fR L) (hR L kind cls.data.toList st) (ordN L) Lk.none).bak.a : Int), .bool (foldO (fR L) (hR L kind cls.data.toList st) (ordN L) Lk.none).brd, .int .i64 (foldO (fR L) (hR L kind cls.data.toList st) (ordN L) Lk.none).pad], .int .i64 0]) ∧ Below x.heap.size x w') := hid fun x hb => Look_ok w.heap.size A c L hin x (tabs_on hT hb) (hA.below hb) hb.size kind st hst cls h2 hc
  have CQ : ∀ field, FieldOk field → Hid (∀ x, Below w.heap.size w x → Calls Tryd.prog 14 #[.slice A L.length c, .int .u8 (kind : Int), .string cls, .int .u8 (st : Int), .int .u8 (field : Int)] x fun e w' => e = .returned (.tuple #[.int .i64 (whichR L kind cls.data.toList st field), .int .i64 0]) ∧ Below x.heap.size x w') := fun field hf => hid fun x hb => Which_ok w.heap.size A c L hin x (tabs_on hT hb) (hA.below hb) hb.size kind st field hst cls h2 hc hf
  have hu := told_look hin kind cls.data.toList st
  have hb := four_has0 (fR L) (whichR L kind cls.data.toList st 1) (whichR L kind cls.data.toList st 2) (whichR L kind cls.data.toList st 4) (whichR L kind cls.data.toList st 8)
  have hf := four_fields (fR L) (whichR L kind cls.data.toList st 1) (whichR L kind cls.data.toList st 2) (whichR L kind cls.data.toList st 4) (whichR L kind cls.data.toList st 8)
  rw [← hu] at hb hf
  have hn : ∀ field, whichR L kind cls.data.toList st field = -1 ∨ ∃ (a : Nat) (r : Ru), a < L.length ∧ whichR L kind cls.data.toList st field = (a : Int) ∧ fR L a = r.look ∧ tl r.look.has (field : Int) = true ∧ r.look.has < 256 ∧ (∀ x, Below w.heap.size w x → Calls Tryd.prog 25 #[.agg #[.int .u8 (r.kind : Int), .string r.cls, .int .u8 (r.st : Int), .int .u8 (r.look.has : Int), .int .u8 (r.look.col.r : Int), .int .u8 (r.look.col.g : Int), .int .u8 (r.look.col.b : Int), .int .u8 (r.look.col.a : Int), .int .u8 (r.look.bak.r : Int), .int .u8 (r.look.bak.g : Int), .int .u8 (r.look.bak.b : Int), .int .u8 (r.look.bak.a : Int), .bool r.look.brd, .int .i64 r.look.pad], .int .u8 (kind : Int), .string cls, .int .u8 (st : Int)] x fun e w' => e = .returned (.bool true) ∧ Below x.heap.size x w') ∧
      ∀ x, Below w.heap.size w x → ∃ g o, A = some ⟨g, o, none⟩ ∧ g < w.heap.size ∧ x.cell? ⟨g, o + a * 14, none⟩ = some (.int .u8 (r.kind : Int)) ∧ x.cell? ⟨g, o + a * 14 + 1, none⟩ = some (.string r.cls) ∧ x.cell? ⟨g, o + a * 14 + 2, none⟩ = some (.int .u8 (r.st : Int)) ∧ x.cell? ⟨g, o + a * 14 + 3, none⟩ = some (.int .u8 (r.look.has : Int)) ∧ x.cell? ⟨g, o + a * 14 + 4, none⟩ = some (.int .u8 (r.look.col.r : Int)) ∧ x.cell? ⟨g, o + a * 14 + 5, none⟩ = some (.int .u8 (r.look.col.g : Int)) ∧ x.cell? ⟨g, o + a * 14 + 6, none⟩ = some (.int .u8 (r.look.col.b : Int)) ∧ x.cell? ⟨g, o + a * 14 + 7, none⟩ = some (.int .u8 (r.look.col.a : Int)) ∧ x.cell? ⟨g, o + a * 14 + 8, none⟩ = some (.int .u8 (r.look.bak.r : Int)) ∧ x.cell? ⟨g, o + a * 14 + 9, none⟩ = some (.int .u8 (r.look.bak.g : Int)) ∧ x.cell? ⟨g, o + a * 14 + 10, none⟩ = some (.int .u8 (r.look.bak.b : Int)) ∧ x.cell? ⟨g, o + a * 14 + 11, none⟩ = some (.int .u8 (r.look.bak.a : Int)) ∧ x.cell? ⟨g, o + a * 14 + 12, none⟩ = some (.bool r.look.brd) ∧ x.cell? ⟨g, o + a * 14 + 13, none⟩ = some (.int .i64 r.look.pad) := fun field => by
    have hge := whichL_ge (toldR L kind cls.data.toList st field) (ordN L)
    by_cases e : whichR L kind cls.data.toList st field = -1
    · exact .inl e
    · right
      obtain ⟨a, h1, h2'⟩ := which_nat (P := toldR L kind cls.data.toList st field) (o := ordN L) (by unfold whichR at e; omega)
      have ha := ordN_mem a h1
      obtain ⟨q1, q2⟩ := which_holds ha (show whichR L kind cls.data.toList st field = (a : Int) from h2')
      refine ⟨a, L[a], ha, h2', fR_get ha, q2, (hin _ (List.getElem_mem ha)).2.2.1.1, fun x hb => ?_, fun x hb => (hA.below hb).ru ha⟩
      have q := lholds_any L[a] (hin _ (List.getElem_mem ha)) ((List.all_eq_true.1 hok) _ (List.getElem_mem ha)) kind st hst cls h2 x (tabs_on hT hb)
      rw [q1] at q
      exact q
  have N1 := hid (hn 1)
  have N2 := hid (hn 2)
  have N4 := hid (hn 4)
  have N8 := hid (hn 8)
  have Q1 := CQ 1 (by unfold FieldOk; omega)
  have Q2 := CQ 2 (by unfold FieldOk; omega)
  have Q4 := CQ 4 (by unfold FieldOk; omega)
  have Q8 := CQ 8 (by unfold FieldOk; omega)
  have hu8 : (foldO (fR L) (hR L kind cls.data.toList st) (ordN L) Lk.none).has < 256 := by
    have := foldO_lt (f := fR L) (h := hR L kind cls.data.toList st) (o := ordN L) (z := Lk.none) (by decide)
    omega
  clear hu hn CQ
  generalize foldO (fR L) (hR L kind cls.data.toList st) (ordN L) Lk.none = u at *
  generalize whichR L kind cls.data.toList st 1 = n1 at *
  generalize whichR L kind cls.data.toList st 2 = n2 at *
  generalize whichR L kind cls.data.toList st 4 = n4 at *
  generalize whichR L kind cls.data.toList st 8 = n8 at *
  obtain ⟨b1, b2, b4, b8⟩ := hb
  obtain ⟨f1, f2, f4, f8⟩ := hf
  have B1 := hid b1
  have B2 := hid b2
  have B4 := hid b4
  have B8 := hid b8
  have F1 := hid f1
  have F2 := hid f2
  have F4 := hid f4
  have F8 := hid f8
  generalize fR L = F at *
  generalize L.length = N at *
  have z1 : (N : Int) ≤ 100 := by omega
  have z2 : (cls.size : Int) ≤ 5000 := by omega
  unfold maxLen at hcm
  clear hT hA hin hc hok b1 b2 b4 b8 f1 f2 f4 f8
  go_enter Tryd.func7, Tryd.ntmps7
  go_wp2_with fail
  refine CA.mono ?_
  rintro e w1 ⟨rfl, hb1⟩
  have HB1 := hid hb1
  clear hb1 CA
  go_wp2_with fail
  refine (CL.out _ HB1.out).mono ?_
  rintro e w2 ⟨rfl, hb2⟩
  have hb2' := HB1.out.trans (hb2.mono HB1.out.size)
  have HBa := hid (hb2'.alloc hb2'.size (.cells #[.int .u8 (u.has : Int), .int .u8 (u.col.r : Int), .int .u8 (u.col.g : Int), .int .u8 (u.col.b : Int), .int .u8 (u.col.a : Int), .int .u8 (u.bak.r : Int), .int .u8 (u.bak.g : Int), .int .u8 (u.bak.b : Int), .int .u8 (u.bak.a : Int), .bool u.brd, .int .i64 u.pad] 32))
  have k2 := heap_alloc_new w2 (.cells #[.int .u8 (u.has : Int), .int .u8 (u.col.r : Int), .int .u8 (u.col.g : Int), .int .u8 (u.col.b : Int), .int .u8 (u.col.a : Int), .int .u8 (u.bak.r : Int), .int .u8 (u.bak.g : Int), .int .u8 (u.bak.b : Int), .int .u8 (u.bak.a : Int), .bool u.brd, .int .i64 u.pad] 32)
  have K2 := hid k2
  clear hb2 hb2' k2 CL
  go_wp2_with fail
  go_loopg [12] 4 (fun gh v12 wr => ∃ i : Nat, v12 = .int .i64 ((2 ^ i : Nat) : Int) ∧ i ≤ 4 ∧ 4 - i ≤ gh ∧ Hid (Below w.heap.size w wr ∧ wr.heap[w2.heap.size]? = some (.cells #[.int .u8 (u.has : Int), .int .u8 (u.col.r : Int), .int .u8 (u.col.g : Int), .int .u8 (u.col.b : Int), .int .u8 (u.col.a : Int), .int .u8 (u.bak.r : Int), .int .u8 (u.bak.g : Int), .int .u8 (u.bak.b : Int), .int .u8 (u.bak.a : Int), .bool u.brd, .int .i64 u.pad] 32 (0, 0))))
  case atStart => exact ⟨0, rfl, by omega, by omega, hid ⟨HBa.out, K2.out⟩⟩
  case round =>
    obtain ⟨i, rfl, hi, hgi, HI⟩ := hrel
    have hcase : i = 0 ∨ i = 1 ∨ i = 2 ∨ i = 3 ∨ i = 4 := by omega
    rcases hcase with rfl | rfl | rfl | rfl | rfl
    · have e2 : ((2 ^ 0 : Nat) : Int) = 1 := rfl
      rw [e2]
      clear e2
      have kb := blk_cell HI.out.2
      have hB := B1.out
      rcases N1.out with hn | ⟨a, r, ha, hn, hfa, hrt, hr8, hH, hC⟩
      · subst hn
        have tb : (bits .and .u8 (u.has : Int) 1 != 0) = false := by have := hB; unfold tl at this; rw [this]; rfl
        clear hB
        go_wp2_with fail
        refine (Q1.out _ HI.out.1).mono ?_
        rintro e w3 ⟨rfl, hb3⟩
        have HI3 := hid (And.intro (HI.out.1.trans (hb3.mono HI.out.1.size)) ((hb3.block _ (lt_of_block HI.out.2)).trans HI.out.2))
        clear kb hb3
        have kb := blk_cell HI3.out.2
        go_wp2
        go_roundg (4 - (0 + 1))
        case measure => omega
        case rel => exact ⟨0 + 1, by go_num, by omega, by omega, HI3⟩
      · subst hn
        have tb : (bits .and .u8 (u.has : Int) 1 != 0) = true := by have := hB; unfold tl at this; rw [this]; simp
        clear hB
        have rt1 : (bits .and .u8 (r.look.has : Int) 1 != 0) = true := hrt
        have rt2 : (bits .and .u8 (r.look.has : Int) 1 == 0) = false := by rw [beq_eq_false_iff_ne]; simpa using rt1
        have hfd := F1.out a rfl
        rw [hfa] at hfd
        have hE : clEq r.look.col.r r.look.col.g r.look.col.b r.look.col.a u.col.r u.col.g u.col.b u.col.a = true := by rw [clEq_iff, hfd]; exact decide_eq_true rfl
        have HH := hid hH
        have HC := hid hC
        clear hfd hfa hrt hH hC
        have hai : (a : Int) < (N : Int) := by omega
        have haz : ¬ ((N : Int) ≤ (a : Int)) := by omega
        go_wp2_with fail
        refine (Q1.out _ HI.out.1).mono ?_
        rintro e w3 ⟨rfl, hb3⟩
        have hb3' := HI.out.1.trans (hb3.mono HI.out.1.size)
        have q3 := (hb3.block _ (lt_of_block HI.out.2)).trans HI.out.2
        have HI3 := hid (And.intro hb3' q3)
        clear kb hb3
        have kb := blk_cell HI3.out.2
        have y1 : w2.heap.size < w3.heap.size := lt_of_block q3
        clear q3
        obtain ⟨gr, oR, hAr, hgr, c0, c1, c2, c3, c4, c5, c6, c7, c8, c9, c10, c11, c12, c13⟩ := HC.out _ hb3'
        subst hAr
        have y2 : gr < w3.heap.size := Nat.lt_of_lt_of_le hgr hb3'.size
        have HX := hid (hb3'.alloc hb3'.size (.cells #[.int .u8 (r.look.has : Int), .int .u8 (r.look.col.r : Int), .int .u8 (r.look.col.g : Int), .int .u8 (r.look.col.b : Int), .int .u8 (r.look.col.a : Int), .int .u8 (r.look.bak.r : Int), .int .u8 (r.look.bak.g : Int), .int .u8 (r.look.bak.b : Int), .int .u8 (r.look.bak.a : Int), .bool r.look.brd, .int .i64 r.look.pad] 32))
        have kr := heap_alloc_new w3 (.cells #[.int .u8 (r.look.has : Int), .int .u8 (r.look.col.r : Int), .int .u8 (r.look.col.g : Int), .int .u8 (r.look.col.b : Int), .int .u8 (r.look.col.a : Int), .int .u8 (r.look.bak.r : Int), .int .u8 (r.look.bak.g : Int), .int .u8 (r.look.bak.b : Int), .int .u8 (r.look.bak.a : Int), .bool r.look.brd, .int .i64 r.look.pad] 32)
        have KR := hid kr
        clear hb3' kr
        go_wp2_with fail
        refine (HH.out _ HX.out).mono ?_
        rintro e w4 ⟨rfl, hb4⟩
        have HI4 := hid (And.intro (HX.out.trans (hb4.mono HX.out.size)) ((hb4.block _ (by simp; omega)).trans ((heap_alloc_old w3 (.cells #[.int .u8 (r.look.has : Int), .int .u8 (r.look.col.r : Int), .int .u8 (r.look.col.g : Int), .int .u8 (r.look.col.b : Int), .int .u8 (r.look.col.a : Int), .int .u8 (r.look.bak.r : Int), .int .u8 (r.look.bak.g : Int), .int .u8 (r.look.bak.b : Int), .int .u8 (r.look.bak.a : Int), .bool r.look.brd, .int .i64 r.look.pad] 32) y1).trans HI3.out.2)))
        have k4 := blk_cell HI4.out.2
        have kr4 := blk_cell ((hb4.block _ (lt_of_block KR.out)).trans KR.out)
        clear kb hb4 c0 c1 c2 c3 c4 c5 c6 c7 c8 c9 c10 c11 c12 c13
        go_wp2
        go_roundg (4 - (0 + 1))
        case measure => omega
        case rel => exact ⟨0 + 1, by go_num, by omega, by omega, HI4⟩
    · have e2 : ((2 ^ 1 : Nat) : Int) = 2 := rfl
      rw [e2]
      clear e2
      have kb := blk_cell HI.out.2
      have hB := B2.out
      rcases N2.out with hn | ⟨a, r, ha, hn, hfa, hrt, hr8, hH, hC⟩
      · subst hn
        have tb : (bits .and .u8 (u.has : Int) 2 != 0) = false := by have := hB; unfold tl at this; rw [this]; rfl
        clear hB
        go_wp2_with fail
        refine (Q2.out _ HI.out.1).mono ?_
        rintro e w3 ⟨rfl, hb3⟩
        have HI3 := hid (And.intro (HI.out.1.trans (hb3.mono HI.out.1.size)) ((hb3.block _ (lt_of_block HI.out.2)).trans HI.out.2))
        clear kb hb3
        have kb := blk_cell HI3.out.2
        go_wp2
        go_roundg (4 - (1 + 1))
        case measure => omega
        case rel => exact ⟨1 + 1, by go_num, by omega, by omega, HI3⟩
      · subst hn
        have tb : (bits .and .u8 (u.has : Int) 2 != 0) = true := by have := hB; unfold tl at this; rw [this]; simp
        clear hB
        have rt1 : (bits .and .u8 (r.look.has : Int) 2 != 0) = true := hrt
        have rt2 : (bits .and .u8 (r.look.has : Int) 2 == 0) = false := by rw [beq_eq_false_iff_ne]; simpa using rt1
        have hfd := F2.out a rfl
        rw [hfa] at hfd
        have hE : clEq r.look.bak.r r.look.bak.g r.look.bak.b r.look.bak.a u.bak.r u.bak.g u.bak.b u.bak.a = true := by rw [clEq_iff, hfd]; exact decide_eq_true rfl
        have HH := hid hH
        have HC := hid hC
        clear hfd hfa hrt hH hC
        have hai : (a : Int) < (N : Int) := by omega
        have haz : ¬ ((N : Int) ≤ (a : Int)) := by omega
        go_wp2_with fail
        refine (Q2.out _ HI.out.1).mono ?_
        rintro e w3 ⟨rfl, hb3⟩
        have hb3' := HI.out.1.trans (hb3.mono HI.out.1.size)
        have q3 := (hb3.block _ (lt_of_block HI.out.2)).trans HI.out.2
        have HI3 := hid (And.intro hb3' q3)
        clear kb hb3
        have kb := blk_cell HI3.out.2
        have y1 : w2.heap.size < w3.heap.size := lt_of_block q3
        clear q3
        obtain ⟨gr, oR, hAr, hgr, c0, c1, c2, c3, c4, c5, c6, c7, c8, c9, c10, c11, c12, c13⟩ := HC.out _ hb3'
        subst hAr
        have y2 : gr < w3.heap.size := Nat.lt_of_lt_of_le hgr hb3'.size
        have HX := hid (hb3'.alloc hb3'.size (.cells #[.int .u8 (r.look.has : Int), .int .u8 (r.look.col.r : Int), .int .u8 (r.look.col.g : Int), .int .u8 (r.look.col.b : Int), .int .u8 (r.look.col.a : Int), .int .u8 (r.look.bak.r : Int), .int .u8 (r.look.bak.g : Int), .int .u8 (r.look.bak.b : Int), .int .u8 (r.look.bak.a : Int), .bool r.look.brd, .int .i64 r.look.pad] 32))
        have kr := heap_alloc_new w3 (.cells #[.int .u8 (r.look.has : Int), .int .u8 (r.look.col.r : Int), .int .u8 (r.look.col.g : Int), .int .u8 (r.look.col.b : Int), .int .u8 (r.look.col.a : Int), .int .u8 (r.look.bak.r : Int), .int .u8 (r.look.bak.g : Int), .int .u8 (r.look.bak.b : Int), .int .u8 (r.look.bak.a : Int), .bool r.look.brd, .int .i64 r.look.pad] 32)
        have KR := hid kr
        clear hb3' kr
        go_wp2_with fail
        refine (HH.out _ HX.out).mono ?_
        rintro e w4 ⟨rfl, hb4⟩
        have HI4 := hid (And.intro (HX.out.trans (hb4.mono HX.out.size)) ((hb4.block _ (by simp; omega)).trans ((heap_alloc_old w3 (.cells #[.int .u8 (r.look.has : Int), .int .u8 (r.look.col.r : Int), .int .u8 (r.look.col.g : Int), .int .u8 (r.look.col.b : Int), .int .u8 (r.look.col.a : Int), .int .u8 (r.look.bak.r : Int), .int .u8 (r.look.bak.g : Int), .int .u8 (r.look.bak.b : Int), .int .u8 (r.look.bak.a : Int), .bool r.look.brd, .int .i64 r.look.pad] 32) y1).trans HI3.out.2)))
        have k4 := blk_cell HI4.out.2
        have kr4 := blk_cell ((hb4.block _ (lt_of_block KR.out)).trans KR.out)
        clear kb hb4 c0 c1 c2 c3 c4 c5 c6 c7 c8 c9 c10 c11 c12 c13
        go_wp2
        go_roundg (4 - (1 + 1))
        case measure => omega
        case rel => exact ⟨1 + 1, by go_num, by omega, by omega, HI4⟩
    · have e2 : ((2 ^ 2 : Nat) : Int) = 4 := rfl
      rw [e2]
      clear e2
      have kb := blk_cell HI.out.2
      have hB := B4.out
      rcases N4.out with hn | ⟨a, r, ha, hn, hfa, hrt, hr8, hH, hC⟩
      · subst hn
        have tb : (bits .and .u8 (u.has : Int) 4 != 0) = false := by have := hB; unfold tl at this; rw [this]; rfl
        clear hB
        go_wp2_with fail
        refine (Q4.out _ HI.out.1).mono ?_
        rintro e w3 ⟨rfl, hb3⟩
        have HI3 := hid (And.intro (HI.out.1.trans (hb3.mono HI.out.1.size)) ((hb3.block _ (lt_of_block HI.out.2)).trans HI.out.2))
        clear kb hb3
        have kb := blk_cell HI3.out.2
        go_wp2
        go_roundg (4 - (2 + 1))
        case measure => omega
        case rel => exact ⟨2 + 1, by go_num, by omega, by omega, HI3⟩
      · subst hn
        have tb : (bits .and .u8 (u.has : Int) 4 != 0) = true := by have := hB; unfold tl at this; rw [this]; simp
        clear hB
        have rt1 : (bits .and .u8 (r.look.has : Int) 4 != 0) = true := hrt
        have rt2 : (bits .and .u8 (r.look.has : Int) 4 == 0) = false := by rw [beq_eq_false_iff_ne]; simpa using rt1
        have hfd := F4.out a rfl
        rw [hfa] at hfd
        have HFD := hid hfd.symm
        have hE : (r.look.brd != u.brd) = false := by rw [hfd]; simp
        have HH := hid hH
        have HC := hid hC
        clear hfd hfa hrt hH hC
        have hai : (a : Int) < (N : Int) := by omega
        have haz : ¬ ((N : Int) ≤ (a : Int)) := by omega
        go_wp2_with fail
        refine (Q4.out _ HI.out.1).mono ?_
        rintro e w3 ⟨rfl, hb3⟩
        have hb3' := HI.out.1.trans (hb3.mono HI.out.1.size)
        have q3 := (hb3.block _ (lt_of_block HI.out.2)).trans HI.out.2
        have HI3 := hid (And.intro hb3' q3)
        clear kb hb3
        have kb := blk_cell HI3.out.2
        have y1 : w2.heap.size < w3.heap.size := lt_of_block q3
        clear q3
        obtain ⟨gr, oR, hAr, hgr, c0, c1, c2, c3, c4, c5, c6, c7, c8, c9, c10, c11, c12, c13⟩ := HC.out _ hb3'
        subst hAr
        have y2 : gr < w3.heap.size := Nat.lt_of_lt_of_le hgr hb3'.size
        have HX := hid (hb3'.alloc hb3'.size (.cells #[.int .u8 (r.look.has : Int), .int .u8 (r.look.col.r : Int), .int .u8 (r.look.col.g : Int), .int .u8 (r.look.col.b : Int), .int .u8 (r.look.col.a : Int), .int .u8 (r.look.bak.r : Int), .int .u8 (r.look.bak.g : Int), .int .u8 (r.look.bak.b : Int), .int .u8 (r.look.bak.a : Int), .bool r.look.brd, .int .i64 r.look.pad] 32))
        have kr := heap_alloc_new w3 (.cells #[.int .u8 (r.look.has : Int), .int .u8 (r.look.col.r : Int), .int .u8 (r.look.col.g : Int), .int .u8 (r.look.col.b : Int), .int .u8 (r.look.col.a : Int), .int .u8 (r.look.bak.r : Int), .int .u8 (r.look.bak.g : Int), .int .u8 (r.look.bak.b : Int), .int .u8 (r.look.bak.a : Int), .bool r.look.brd, .int .i64 r.look.pad] 32)
        have KR := hid kr
        clear hb3' kr
        go_wp2_with fail
        refine (HH.out _ HX.out).mono ?_
        rintro e w4 ⟨rfl, hb4⟩
        have HI4 := hid (And.intro (HX.out.trans (hb4.mono HX.out.size)) ((hb4.block _ (by simp; omega)).trans ((heap_alloc_old w3 (.cells #[.int .u8 (r.look.has : Int), .int .u8 (r.look.col.r : Int), .int .u8 (r.look.col.g : Int), .int .u8 (r.look.col.b : Int), .int .u8 (r.look.col.a : Int), .int .u8 (r.look.bak.r : Int), .int .u8 (r.look.bak.g : Int), .int .u8 (r.look.bak.b : Int), .int .u8 (r.look.bak.a : Int), .bool r.look.brd, .int .i64 r.look.pad] 32) y1).trans HI3.out.2)))
        have k4 := blk_cell HI4.out.2
        have kr4 := blk_cell ((hb4.block _ (lt_of_block KR.out)).trans KR.out)
        clear kb hb4 c0 c1 c2 c3 c4 c5 c6 c7 c8 c9 c10 c11 c12 c13
        go_wp2
        go_roundg (4 - (2 + 1))
        case measure => omega
        case rel => exact ⟨2 + 1, by go_num, by omega, by omega, HI4⟩
        all_goals (exact absurd HFD.out (by assumption))
    · have e2 : ((2 ^ 3 : Nat) : Int) = 8 := rfl
      rw [e2]
      clear e2
      have kb := blk_cell HI.out.2
      have hB := B8.out
      rcases N8.out with hn | ⟨a, r, ha, hn, hfa, hrt, hr8, hH, hC⟩
      · subst hn
        have tb : (bits .and .u8 (u.has : Int) 8 != 0) = false := by have := hB; unfold tl at this; rw [this]; rfl
        clear hB
        go_wp2_with fail
        refine (Q8.out _ HI.out.1).mono ?_
        rintro e w3 ⟨rfl, hb3⟩
        have HI3 := hid (And.intro (HI.out.1.trans (hb3.mono HI.out.1.size)) ((hb3.block _ (lt_of_block HI.out.2)).trans HI.out.2))
        clear kb hb3
        have kb := blk_cell HI3.out.2
        go_wp2
        go_roundg (4 - (3 + 1))
        case measure => omega
        case rel => exact ⟨3 + 1, by go_num, by omega, by omega, HI3⟩
      · subst hn
        have tb : (bits .and .u8 (u.has : Int) 8 != 0) = true := by have := hB; unfold tl at this; rw [this]; simp
        clear hB
        have rt1 : (bits .and .u8 (r.look.has : Int) 8 != 0) = true := hrt
        have rt2 : (bits .and .u8 (r.look.has : Int) 8 == 0) = false := by rw [beq_eq_false_iff_ne]; simpa using rt1
        have hfd := F8.out a rfl
        rw [hfa] at hfd
        have hE : (r.look.pad != u.pad) = false := by rw [hfd]; simp
        have HH := hid hH
        have HC := hid hC
        clear hfd hfa hrt hH hC
        have hai : (a : Int) < (N : Int) := by omega
        have haz : ¬ ((N : Int) ≤ (a : Int)) := by omega
        go_wp2_with fail
        refine (Q8.out _ HI.out.1).mono ?_
        rintro e w3 ⟨rfl, hb3⟩
        have hb3' := HI.out.1.trans (hb3.mono HI.out.1.size)
        have q3 := (hb3.block _ (lt_of_block HI.out.2)).trans HI.out.2
        have HI3 := hid (And.intro hb3' q3)
        clear kb hb3
        have kb := blk_cell HI3.out.2
        have y1 : w2.heap.size < w3.heap.size := lt_of_block q3
        clear q3
        obtain ⟨gr, oR, hAr, hgr, c0, c1, c2, c3, c4, c5, c6, c7, c8, c9, c10, c11, c12, c13⟩ := HC.out _ hb3'
        subst hAr
        have y2 : gr < w3.heap.size := Nat.lt_of_lt_of_le hgr hb3'.size
        have HX := hid (hb3'.alloc hb3'.size (.cells #[.int .u8 (r.look.has : Int), .int .u8 (r.look.col.r : Int), .int .u8 (r.look.col.g : Int), .int .u8 (r.look.col.b : Int), .int .u8 (r.look.col.a : Int), .int .u8 (r.look.bak.r : Int), .int .u8 (r.look.bak.g : Int), .int .u8 (r.look.bak.b : Int), .int .u8 (r.look.bak.a : Int), .bool r.look.brd, .int .i64 r.look.pad] 32))
        have kr := heap_alloc_new w3 (.cells #[.int .u8 (r.look.has : Int), .int .u8 (r.look.col.r : Int), .int .u8 (r.look.col.g : Int), .int .u8 (r.look.col.b : Int), .int .u8 (r.look.col.a : Int), .int .u8 (r.look.bak.r : Int), .int .u8 (r.look.bak.g : Int), .int .u8 (r.look.bak.b : Int), .int .u8 (r.look.bak.a : Int), .bool r.look.brd, .int .i64 r.look.pad] 32)
        have KR := hid kr
        clear hb3' kr
        go_wp2_with fail
        refine (HH.out _ HX.out).mono ?_
        rintro e w4 ⟨rfl, hb4⟩
        have HI4 := hid (And.intro (HX.out.trans (hb4.mono HX.out.size)) ((hb4.block _ (by simp; omega)).trans ((heap_alloc_old w3 (.cells #[.int .u8 (r.look.has : Int), .int .u8 (r.look.col.r : Int), .int .u8 (r.look.col.g : Int), .int .u8 (r.look.col.b : Int), .int .u8 (r.look.col.a : Int), .int .u8 (r.look.bak.r : Int), .int .u8 (r.look.bak.g : Int), .int .u8 (r.look.bak.b : Int), .int .u8 (r.look.bak.a : Int), .bool r.look.brd, .int .i64 r.look.pad] 32) y1).trans HI3.out.2)))
        have k4 := blk_cell HI4.out.2
        have kr4 := blk_cell ((hb4.block _ (lt_of_block KR.out)).trans KR.out)
        clear kb hb4 c0 c1 c2 c3 c4 c5 c6 c7 c8 c9 c10 c11 c12 c13
        go_wp2
        go_roundg (4 - (3 + 1))
        case measure => omega
        case rel => exact ⟨3 + 1, by go_num, by omega, by omega, HI4⟩
    · have e2 : ((2 ^ 4 : Nat) : Int) = 16 := rfl
      rw [e2]
      clear e2
      go_wp2
      go_ret
      exact ⟨rfl, HI.out.1⟩
theorem walkStyleTold : Calls Tryd.prog 7 #[.slice A L.length c, .int .u8 (kind : Int), .string cls, .int .u8 (st : Int)] w fun e w' => e = .returned (.bool true) ∧ Below w.heap.size w w' := by
  by_cases h : 100 < L.length ∨ 5000 < cls.size
  · exact told_great w hT A c L hin hA hlc hcm kind hk cls hs st hst h
  · have h1 : L.length ≤ 100 := by omega
    have h2 : cls.size ≤ 5000 := by omega
    by_cases hc : chkE L = 0
    · exact told_ok w hT A c L hin hA hlc hcm kind hk cls hs st hst h1 h2 hc
    · exact told_bad w hT A c L hin hA hlc hcm kind hk cls hs st hst h1 h2 hc
end
end Go.Proofs.YtoiondgcjbdonaaDoor
