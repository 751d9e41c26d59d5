/- Layer 5: StylePeels: the walk. (Printed by gen_lb.py.) -/
import Derived.Test.YtoiondgcjbdonaaDoorStY
import Derived.Test.YtoiondgcjbdonaaDoorStLawA
namespace Go.Proofs.YtoiondgcjbdonaaDoor
set_option linter.unusedVariables false
set_option linter.unusedSimpArgs false
set_option maxRecDepth 100000
open Go.RowKit Go.Shelf Go.Lib Go.Sort

section
variable (w : World) (hT : Tabs w) (A : Option Addr) (c : Nat) (L : List Ru) (hin : ∀ r ∈ L, r.In) (hA : At w.heap.size w A (rus L)) (hlc : L.length ≤ c) (hcm : c ≤ maxLen) (kind : Nat) (hk : kind < 256) (cls : ByteArray) (hs : cls.size ≤ 9223372036854775807) (st : Nat) (hst : st < 256)
set_option linter.unusedSectionVars false
include hT hin hA hlc hcm hk hs hst
set_option maxHeartbeats 8000000
set_option maxRecDepth 100000
theorem peels_great (h : 60 < L.length ∨ 5000 < cls.size) : Calls Tryd.prog 5 #[.slice A L.length c, .int .u8 (kind : Int), .string cls, .int .u8 (st : Int)] w fun e w' => e = .returned (.bool true) ∧ Below w.heap.size w w' := by
  have CA := alive_any w hT
  have hcases : (60 : Int) < (L.length : Int) ∨ ((L.length : Int) ≤ 60 ∧ (5000 : Int) < (cls.size : Int)) := by omega
  unfold maxLen at hcm
  clear hT hA hin h
  rcases hcases with h1 | ⟨h1, h2⟩
  all_goals
    go_enter Tryd.func5, Tryd.ntmps5
    go_wp2_with (go_at_call 10; refine CA.mono ?_; rintro e w1 ⟨rfl, hb1⟩)
    go_ret
    exact ⟨rfl, hb1⟩
theorem peels_bad (h1 : L.length ≤ 60) (h2 : cls.size ≤ 5000) (hc : chkE L ≠ 0) : Calls Tryd.prog 5 #[.slice A L.length c, .int .u8 (kind : Int), .string cls, .int .u8 (st : Int)] w fun e w' => e = .returned (.bool true) ∧ Below w.heap.size w w' := by
  have CA := alive_any w hT
  have CO : Hid (∀ x, Below w.heap.size w x → Calls Tryd.prog 12 #[.slice A L.length c] x fun e w' => e = .returned (.tuple #[.slice none 0 0, .int .i64 (chkE L)]) ∧ Below x.heap.size x w') := hid fun x hb => Order_bad w.heap.size A c L hin x (tabs_on hT hb) (hA.below hb) hb.size (by omega) hc
  have CL : Hid (∀ x, Below w.heap.size w x → Calls Tryd.prog 13 #[.slice A L.length c, .int .u8 (kind : Int), .string cls, .int .u8 (st : Int)] x fun e w' => e = .returned (.tuple #[.agg #[.int .u8 0, .int .u8 0, .int .u8 0, .int .u8 0, .int .u8 0, .int .u8 0, .int .u8 0, .int .u8 0, .int .u8 0, .bool false, .int .i64 0], .int .i64 (chkE L)]) ∧ Below x.heap.size x w') := hid fun x hb => Look_bad w.heap.size A c L hin x (tabs_on hT hb) (hA.below hb) hb.size (by omega) kind st cls hc
  generalize chkE L = E at *
  have hz : (E != 0) = true := by simpa using hc
  have E3 : lkEq 0 0 0 0 0 0 0 0 0 0 0 0 0 0 0 0 0 0 0 0 false false = true := by kernel_rfl
  have z1 : (L.length : Int) ≤ 60 := by omega
  have z2 : (cls.size : Int) ≤ 5000 := by omega
  unfold maxLen at hcm
  clear hT hA hin hc
  go_enter Tryd.func5, Tryd.ntmps5
  go_wp2_with fail
  refine CA.mono ?_
  rintro e w1 ⟨rfl, hb1⟩
  have HB1 := hid hb1
  clear hb1 CA
  go_wp2_with fail
  refine (CO.out _ HB1.out).mono ?_
  rintro e w2 ⟨rfl, hb2⟩
  have HB2 := hid (HB1.out.trans (hb2.mono HB1.out.size))
  clear hb2
  go_wp2_with fail
  refine (CL.out _ HB2.out).mono ?_
  rintro e w3 ⟨rfl, hb3⟩
  have HB3 := hid (HB2.out.trans (hb3.mono HB2.out.size))
  clear hb3
  go_wp2
  go_ret
  exact ⟨rfl, HB3.out.alloc HB3.out.size _⟩
theorem peels_none (h2 : cls.size ≤ 5000) (h0 : L = []) : Calls Tryd.prog 5 #[.slice A L.length c, .int .u8 (kind : Int), .string cls, .int .u8 (st : Int)] w fun e w' => e = .returned (.bool true) ∧ Below w.heap.size w w' := by
  have CA := alive_any w hT
  subst h0
  have hc : chkE ([] : List Ru) = 0 := by kernel_rfl
  have CO : Hid (∀ x, Below w.heap.size w x → Calls Tryd.prog 12 #[.slice A 0 c] x fun e w' => ∃ g, e = .returned (.tuple #[.slice (some ⟨g, 0, none⟩) 0 0, .int .i64 0]) ∧ w'.ownsRow x.heap.size 3 1 (.slice (some ⟨g, 0, none⟩) 0 0) 0 (ints (ordI ([] : List Ru))) ∧ Below x.heap.size x w') := hid fun x hb => Order_ok w.heap.size A c [] hin x (tabs_on hT hb) (hA.below hb) hb.size hc
  have CL : Hid (∀ x, Below w.heap.size w x → Calls Tryd.prog 13 #[.slice A 0 c, .int .u8 (kind : Int), .string cls, .int .u8 (st : Int)] x fun e w' => e = .returned (.tuple #[.agg #[.int .u8 0, .int .u8 0, .int .u8 0, .int .u8 0, .int .u8 0, .int .u8 0, .int .u8 0, .int .u8 0, .int .u8 0, .bool false, .int .i64 0], .int .i64 0]) ∧ Below x.heap.size x w') := hid fun x hb => by
    have q := Look_ok w.heap.size A c [] hin x (tabs_on hT hb) (hA.below hb) hb.size kind st hst cls h2 hc
    have e : ordN ([] : List Ru) = [] := ordL_zero _
    rw [e] at q
    exact q
  have E3 : lkEq 0 0 0 0 0 0 0 0 0 0 0 0 0 0 0 0 0 0 0 0 false false = true := by kernel_rfl
  have z2 : (cls.size : Int) ≤ 5000 := by omega
  unfold maxLen at hcm
  clear hT hA hin hc
  rw [show ([] : List Ru).length = 0 from rfl] at *
  go_enter Tryd.func5, Tryd.ntmps5
  go_wp2_with fail
  refine CA.mono ?_
  rintro e w1 ⟨rfl, hb1⟩
  have HB1 := hid hb1
  clear hb1 CA
  go_wp2_with fail
  refine (CO.out _ HB1.out).mono ?_
  rintro e w2 ⟨g, rfl, _, hb2⟩
  have HB2 := hid (HB1.out.trans (hb2.mono HB1.out.size))
  clear hb2
  go_wp2_with fail
  refine (CL.out _ HB2.out).mono ?_
  rintro e w3 ⟨rfl, hb3⟩
  have HB3 := hid (HB2.out.trans (hb3.mono HB2.out.size))
  clear hb3
  go_wp2
  go_ret
  exact ⟨rfl, HB3.out.alloc HB3.out.size _⟩
theorem peels_some (h1 : L.length ≤ 60) (h2 : cls.size ≤ 5000) (hc : chkE L = 0) (h0 : 0 < L.length) : Calls Tryd.prog 5 #[.slice A L.length c, .int .u8 (kind : Int), .string cls, .int .u8 (st : Int)] w fun e w' => e = .returned (.bool true) ∧ Below w.heap.size w w' := by
  have CA := alive_any w hT
  have hok := (chk_ok hc).2
  have hlt : L.length - 1 < (ordN L).length := by rw [ordN_len]; omega
  obtain ⟨a, hat⟩ : ∃ a, (ordN L)[L.length - 1]? = some a := ⟨_, List.getElem?_eq_getElem hlt⟩
  have ha : a < L.length := ordN_mem a (List.mem_of_getElem? hat)
  have hpeel := peel hin hok h0 ha hat kind cls.data.toList st
  have hL' : (L.eraseIdx a).length = L.length - 1 := by rw [List.length_eraseIdx, if_pos ha]
  have hin' : ∀ r ∈ L.eraseIdx a, r.In := fun r hr => hin r (List.mem_of_mem_eraseIdx hr)
  have hc' := chk_erase hc a
  have hra := hin _ (List.getElem_mem ha)
  have hrok : okR L[a] = true := (List.all_eq_true.1 hok) _ (List.getElem_mem ha)
  obtain ⟨m, hm⟩ : ∃ m, L.length = m + 1 := ⟨L.length - 1, by omega⟩
  have HR := hid (fun x (hb : Below w.heap.size w x) => (hA.below hb).ru ha)
  have CO : Hid (∀ x, Below w.heap.size w x → Calls Tryd.prog 12 #[.slice A (m + 1) c] x fun e w' => ∃ g, e = .returned (.tuple #[.slice (some ⟨g, 0, none⟩) (m + 1) (m + 1), .int .i64 0]) ∧ w'.cell? ⟨g, m, none⟩ = some (.int .i64 (a : Int)) ∧ g < w'.heap.size ∧ Below x.heap.size x w') := hid fun x hb => by
    have q := Order_ok w.heap.size A c L hin x (tabs_on hT hb) (hA.below hb) hb.size hc
    rw [← hm]
    refine q.mono ?_
    rintro e w' ⟨g, rfl, hown, hb'⟩
    refine ⟨g, rfl, ?_, (hown.lt g rfl).2, hb'⟩
    obtain ⟨g', o, hgo, _, hcc⟩ := ordI_at hown (by rw [ints_len, List.length_map, ordN_len]; exact h0)
    cases hgo
    have := hcc m (.int .i64 (a : Int)) (by
      have e : L.length - 1 = m := by omega
      rw [e] at hat
      unfold ints
      rw [List.getElem?_map, List.getElem?_map, hat]
      rfl)
    rw [Nat.zero_add] at this
    exact this
  have CL : Hid (∀ x, Below w.heap.size w x → Calls Tryd.prog 13 #[.slice A (m + 1) c, .int .u8 (kind : Int), .string cls, .int .u8 (st : Int)] x fun e w' => e = .returned (.tuple #[.agg #[.int .u8 ((foldO (fR L) (hR L kind cls.data.toList st) (ordN L) Lk.none).has : Int), .int .u8 ((foldO (fR L) (hR L kind cls.data.toList st) (ordN L) Lk.none).col.r : Int), .int .u8 ((foldO (fR L) (hR L kind cls.data.toList st) (ordN L) Lk.none).col.g : Int), .int .u8 ((foldO (fR L) (hR L kind cls.data.toList st) (ordN L) Lk.none).col.b : Int), .int .u8 ((foldO (fR L) (hR L kind cls.data.toList st) (ordN L) Lk.none).col.a : Int), .int .u8 ((foldO (fR L) (hR L kind cls.data.toList st) (ordN L) Lk.none).bak.r : Int), .int .u8 ((foldO (fR L) (hR L kind cls.data.toList st) (ordN L) Lk.none).bak.g : Int), .int .u8 ((foldO (fR L) (hR L kind cls.data.toList st) (ordN L) Lk.none).bak.b : Int), .int .u8 ((foldO (fR L) (hR L kind cls.data.toList st) (ordN L) Lk.none).bak.a : Int), .bool (foldO (fR L) (hR L kind cls.data.toList st) (ordN L) Lk.none).brd, .int .i64 (foldO (fR L) (hR L kind cls.data.toList st) (ordN L) Lk.none).pad], .int .i64 0]) ∧ Below x.heap.size x w') := hid fun x hb => by
    have q := Look_ok w.heap.size A c L hin x (tabs_on hT hb) (hA.below hb) hb.size kind st hst cls h2 hc
    rw [hm] at q
    exact q
  have CW : Hid (∀ x, Below w.heap.size w x → Calls Tryd.prog 24 #[.slice A (m + 1) c, .int .i64 (a : Int)] x fun e w' => ∃ A' c', e = .returned (.slice A' m c') ∧ At w'.heap.size w' A' (rus (L.eraseIdx a)) ∧ Below x.heap.size x w') := hid fun x hb => by
    have q := without_any w.heap.size A c L x (hA.below hb) hb.size hlc hcm h1 a ha
    rw [hm] at q
    refine q.mono ?_
    rintro e w' ⟨A', c', rfl, h3, h4⟩
    exact ⟨A', c', by rw [hL', hm]; rfl, h3, h4⟩
  have CL2 : Hid (∀ x A' c', Tabs x → At x.heap.size x A' (rus (L.eraseIdx a)) → Calls Tryd.prog 13 #[.slice A' m c', .int .u8 (kind : Int), .string cls, .int .u8 (st : Int)] x fun e w' => e = .returned (.tuple #[.agg #[.int .u8 ((foldO (fR (L.eraseIdx a)) (hR (L.eraseIdx a) kind cls.data.toList st) (ordN (L.eraseIdx a)) Lk.none).has : Int), .int .u8 ((foldO (fR (L.eraseIdx a)) (hR (L.eraseIdx a) kind cls.data.toList st) (ordN (L.eraseIdx a)) Lk.none).col.r : Int), .int .u8 ((foldO (fR (L.eraseIdx a)) (hR (L.eraseIdx a) kind cls.data.toList st) (ordN (L.eraseIdx a)) Lk.none).col.g : Int), .int .u8 ((foldO (fR (L.eraseIdx a)) (hR (L.eraseIdx a) kind cls.data.toList st) (ordN (L.eraseIdx a)) Lk.none).col.b : Int), .int .u8 ((foldO (fR (L.eraseIdx a)) (hR (L.eraseIdx a) kind cls.data.toList st) (ordN (L.eraseIdx a)) Lk.none).col.a : Int), .int .u8 ((foldO (fR (L.eraseIdx a)) (hR (L.eraseIdx a) kind cls.data.toList st) (ordN (L.eraseIdx a)) Lk.none).bak.r : Int), .int .u8 ((foldO (fR (L.eraseIdx a)) (hR (L.eraseIdx a) kind cls.data.toList st) (ordN (L.eraseIdx a)) Lk.none).bak.g : Int), .int .u8 ((foldO (fR (L.eraseIdx a)) (hR (L.eraseIdx a) kind cls.data.toList st) (ordN (L.eraseIdx a)) Lk.none).bak.b : Int), .int .u8 ((foldO (fR (L.eraseIdx a)) (hR (L.eraseIdx a) kind cls.data.toList st) (ordN (L.eraseIdx a)) Lk.none).bak.a : Int), .bool (foldO (fR (L.eraseIdx a)) (hR (L.eraseIdx a) kind cls.data.toList st) (ordN (L.eraseIdx a)) Lk.none).brd, .int .i64 (foldO (fR (L.eraseIdx a)) (hR (L.eraseIdx a) kind cls.data.toList st) (ordN (L.eraseIdx a)) Lk.none).pad], .int .i64 0]) ∧ Below x.heap.size x w') := hid fun x A' c' hTx hAx => by
    have q := Look_ok x.heap.size A' c' (L.eraseIdx a) hin' x hTx hAx (Nat.le_refl _) kind st hst cls h2 hc'
    rw [hL', hm] at q
    exact q
  have hvlt : (foldO (fR (L.eraseIdx a)) (hR (L.eraseIdx a) kind cls.data.toList st) (ordN (L.eraseIdx a)) Lk.none).has < 256 := by
    have := foldO_lt (f := fR (L.eraseIdx a)) (h := hR (L.eraseIdx a) kind cls.data.toList st) (o := ordN (L.eraseIdx a)) (z := Lk.none) (by decide)
    omega
  generalize foldO (fR L) (hR L kind cls.data.toList st) (ordN L) Lk.none = u at *
  generalize foldO (fR (L.eraseIdx a)) (hR (L.eraseIdx a) kind cls.data.toList st) (ordN (L.eraseIdx a)) Lk.none = v at *
  have CH : Hid (∀ x, Below w.heap.size w x → Calls Tryd.prog 25 #[.agg #[.int .u8 (L[a].kind : Int), .string L[a].cls, .int .u8 (L[a].st : Int), .int .u8 (L[a].look.has : Int), .int .u8 (L[a].look.col.r : Int), .int .u8 (L[a].look.col.g : Int), .int .u8 (L[a].look.col.b : Int), .int .u8 (L[a].look.col.a : Int), .int .u8 (L[a].look.bak.r : Int), .int .u8 (L[a].look.bak.g : Int), .int .u8 (L[a].look.bak.b : Int), .int .u8 (L[a].look.bak.a : Int), .bool L[a].look.brd, .int .i64 L[a].look.pad], .int .u8 (kind : Int), .string cls, .int .u8 (st : Int)] x fun e w' => e = .returned (.bool (holdsL L[a] kind cls.data.toList st)) ∧ Below x.heap.size x w') := hid fun x hb => lholds_any L[a] hra hrok kind st hst cls h2 x (tabs_on hT hb)
  have CU := fun x => under_any L[a].look v hra.2.2.1.1 hvlt x
  have HT := hid hT
  generalize hrr : L[a] = r at *
  generalize holdsL r kind cls.data.toList st = H at *
  have z0 : (m : Int) + 1 ≤ 60 := by omega
  have z2 : (cls.size : Int) ≤ 5000 := by omega
  have z3 : (a : Int) < (m : Int) + 1 := by omega
  have z4 : a < m + 1 := by omega
  rw [hm] at hlc ⊢
  have HP := hid hpeel
  unfold maxLen at hcm
  unfold lkV at CU
  clear hT hA hin hc hok hat hL' hin' hc' hra hrok hm hpeel h1 h0 hlt hrr ha
  have E1 := lkEq_self u
  go_enter Tryd.func5, Tryd.ntmps5
  go_wp2_with fail
  refine CA.mono ?_
  rintro e w1 ⟨rfl, hb1⟩
  have HB1 := hid hb1
  clear hb1 CA
  go_wp2_with fail
  refine (CO.out _ HB1.out).mono ?_
  rintro e w2 ⟨g, rfl, p2, hg2, hb2⟩
  have HB2 := hid (HB1.out.trans (hb2.mono HB1.out.size))
  clear hb2
  go_wp2_with fail
  refine (CL.out _ HB2.out).mono ?_
  rintro e w3 ⟨rfl, hb3⟩
  have HB3 := hid (HB2.out.trans (hb3.mono HB2.out.size))
  have p3 : w3.cell? ⟨g, m, none⟩ = some (.int .i64 (a : Int)) := (hb3.cell (p := ⟨g, m, none⟩) hg2).trans p2
  have hg3 : g < w3.heap.size := Nat.lt_of_lt_of_le hg2 hb3.size
  have k3 := heap_alloc_new w3 (.cells #[.int .u8 (u.has : Int), .int .u8 (u.col.r : Int), .int .u8 (u.col.g : Int), .int .u8 (u.col.b : Int), .int .u8 (u.col.a : Int), .int .u8 (u.bak.r : Int), .int .u8 (u.bak.g : Int), .int .u8 (u.bak.b : Int), .int .u8 (u.bak.a : Int), .bool u.brd, .int .i64 u.pad] 32)
  have HB3' := hid (HB3.out.alloc HB3.out.size (.cells #[.int .u8 (u.has : Int), .int .u8 (u.col.r : Int), .int .u8 (u.col.g : Int), .int .u8 (u.col.b : Int), .int .u8 (u.col.a : Int), .int .u8 (u.bak.r : Int), .int .u8 (u.bak.g : Int), .int .u8 (u.bak.b : Int), .int .u8 (u.bak.a : Int), .bool u.brd, .int .i64 u.pad] 32))
  clear hb3 p2 hg2
  go_wp2_with fail
  refine (CW.out _ HB3'.out).mono ?_
  rintro e w4 ⟨A4, c4, rfl, hA4, hb4⟩
  have HB4 := hid (HB3'.out.trans (hb4.mono HB3'.out.size))
  have k4 := (hb4.block _ (lt_of_block k3)).trans k3
  have HA4 := hid hA4
  clear hb4 k3 p3 hg3 hA4
  go_wp2_with fail
  refine (CL2.out _ _ _ (tabs_on HT.out HB4.out) HA4.out).mono ?_
  rintro e w5 ⟨rfl, hb5⟩
  have HB5 := hid (HB4.out.trans (hb5.mono HB4.out.size))
  have k5 := (heap_alloc_old w5 (.cells #[.int .u8 (v.has : Int), .int .u8 (v.col.r : Int), .int .u8 (v.col.g : Int), .int .u8 (v.col.b : Int), .int .u8 (v.col.a : Int), .int .u8 (v.bak.r : Int), .int .u8 (v.bak.g : Int), .int .u8 (v.bak.b : Int), .int .u8 (v.bak.a : Int), .bool v.brd, .int .i64 v.pad] 32) (Nat.lt_of_lt_of_le (lt_of_block k4) hb5.size)).trans ((hb5.block _ (lt_of_block k4)).trans k4)
  have j5 := heap_alloc_new w5 (.cells #[.int .u8 (v.has : Int), .int .u8 (v.col.r : Int), .int .u8 (v.col.g : Int), .int .u8 (v.col.b : Int), .int .u8 (v.col.a : Int), .int .u8 (v.bak.r : Int), .int .u8 (v.bak.g : Int), .int .u8 (v.bak.b : Int), .int .u8 (v.bak.a : Int), .bool v.brd, .int .i64 v.pad] 32)
  have HB5' := hid (HB5.out.alloc HB5.out.size (.cells #[.int .u8 (v.has : Int), .int .u8 (v.col.r : Int), .int .u8 (v.col.g : Int), .int .u8 (v.col.b : Int), .int .u8 (v.col.a : Int), .int .u8 (v.bak.r : Int), .int .u8 (v.bak.g : Int), .int .u8 (v.bak.b : Int), .int .u8 (v.bak.a : Int), .bool v.brd, .int .i64 v.pad] 32))
  clear hb5 k4
  obtain ⟨gr, oR, rfl, hgr, c0, c1, c2, c3, c4', c5, c6, c7, c8, c9, c10, c11, c12, c13⟩ := HR.out _ HB5.out
  have hgr5 : gr < w5.heap.size := Nat.lt_of_lt_of_le hgr HB5.out.size
  go_wp2_with fail
  refine (CH.out _ HB5'.out).mono ?_
  rintro e w6 ⟨rfl, hb6⟩
  have HB6 := hid (HB5'.out.trans (hb6.mono HB5'.out.size))
  have k6 := blk_cell ((hb6.block _ (lt_of_block k5)).trans k5)
  have j6 := blk_cell ((hb6.block _ (lt_of_block j5)).trans j5)
  have y1 : w3.heap.size < w6.heap.size := Nat.lt_of_lt_of_le (lt_of_block k5) hb6.size
  have y2 : w5.heap.size < w6.heap.size := Nat.lt_of_lt_of_le (lt_of_block j5) hb6.size
  have y3 : gr < w6.heap.size := Nat.lt_of_lt_of_le hgr HB6.out.size
  clear hb6 k5 j5 c0 c1 c2 c3 c4' c5 c6 c7 c8 c9 c10 c11 c12 c13
  obtain ⟨gr', oR', hgo, hgr', c0, c1, c2, c3, c4', c5, c6, c7, c8, c9, c10, c11, c12, c13⟩ := HR.out _ HB6.out
  cases hgo
  cases H with
  | true =>
    have hp : u = underL r.look v := by have := HP.out; simpa using this
    rw [← hp] at CU
    have HX := hid hp
    clear hp
    go_wp2
    refine region_ext mixed (by kernel_rfl) ?_
    repeat (go_big_quiet_step ((go_at_call 22; exact in_ext (CU _))))
    refine wpQuiet_nil ?_
    intro w7 hb7
    go_wp2
    go_ret
    exact ⟨rfl, HB6.out.trans (hb7.mono HB6.out.size)⟩
  | false =>
    have hp : u = v := by have := HP.out; simpa using this
    subst hp
    go_wp2
    go_ret
    exact ⟨rfl, HB6.out⟩
theorem walkStylePeels : Calls Tryd.prog 5 #[.slice A L.length c, .int .u8 (kind : Int), .string cls, .int .u8 (st : Int)] w fun e w' => e = .returned (.bool true) ∧ Below w.heap.size w w' := by
  by_cases h : 60 < L.length ∨ 5000 < cls.size
  · exact peels_great w hT A c L hin hA hlc hcm kind hk cls hs st hst h
  · have h1 : L.length ≤ 60 := by omega
    have h2 : cls.size ≤ 5000 := by omega
    by_cases hc : chkE L = 0
    · by_cases h0 : L = []
      · exact peels_none w hT A c L hin hA hlc hcm kind hk cls hs st hst h2 h0
      · exact peels_some w hT A c L hin hA hlc hcm kind hk cls hs st hst h1 h2 hc (List.length_pos_iff.2 h0)
    · exact peels_bad w hT A c L hin hA hlc hcm kind hk cls hs st hst h1 h2 hc
end
end Go.Proofs.YtoiondgcjbdonaaDoor
