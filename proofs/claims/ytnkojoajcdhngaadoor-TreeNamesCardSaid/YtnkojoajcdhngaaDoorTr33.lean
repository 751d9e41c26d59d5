/- Layer 8: alike. Printed by gen_tr33.py. -/
import Derived.Test.YtnkojoajcdhngaaDoorTrAe
namespace Go.Proofs.YtnkojoajcdhngaaDoor
set_option linter.unusedVariables false
set_option linter.unusedSimpArgs false
set_option maxRecDepth 100000
open Go.RowKit Go.Shelf Go.Lib
attribute [local go_sem] Oper.semAt_some
set_option maxRecDepth 100000
set_option maxHeartbeats 16000000

/-- Are nodes alike, but for their lists? -/
def alikeB (a b : Nd) : Bool := (a.kind == b.kind) && ((a.name.toList == b.name.toList) && ((a.cls.toList == b.cls.toList) && ((a.txt.toList == b.txt.toList) && ((a.mw == b.mw) && ((a.mh == b.mh) && ((a.xw == b.xw) && ((a.xh == b.xh) && ((a.grow == b.grow) && ((a.order == b.order) && ((a.column == b.column) && ((a.columns == b.columns) && ((a.span == b.span) && ((a.gap == b.gap) && ((a.ox == b.ox) && ((a.oy == b.oy) && ((a.hidden == b.hidden)))))))))))))))))
theorem alike_any (a b : Nd) (va ka vb kb : Value) (w : World) (ca cb : List Value) (hca : ndC a va ka = ca) (hcb : ndC b vb kb = cb) (hla : ca.length = 19) (hlb : cb.length = 19) (h1a : ca.toArray.all (·.oneCell') = true) (h1b : cb.toArray.all (·.oneCell') = true) :
    Calls Tryd.prog 72 #[.agg ca.toArray, .agg cb.toArray] w fun e w' => e = .returned (.bool (alikeB a b)) ∧ Below w.heap.size w w' := by
  obtain ⟨s0, hs⟩ : ∃ s0, w.heap.size = s0 := ⟨_, rfl⟩
  obtain ⟨W, hW⟩ : ∃ W, (w.alloc (.cells ca.toArray 39)).alloc (.cells cb.toArray 39) = W := ⟨_, rfl⟩
  have hN1 : NBox s0 a va ka W := by
    unfold NBox
    rw [hca, ← hW, ← hs, Below.heap_alloc _ _ _ (by simp)]
    exact World.alloc_heap_new _ _
  have hN2 : NBox (s0 + 1) b vb kb W := by
    unfold NBox
    rw [hcb, ← hW, ← hs]
    have := World.alloc_heap_new (w.alloc (.cells ca.toArray 39)) (.cells cb.toArray 39)
    rwa [World.size_alloc] at this
  have hB : Below w.heap.size w W := by
    rw [← hW]
    exact ((Below.refl _ _).alloc (Nat.le_refl _) _).alloc (by simp) _
  obtain ⟨R, hR⟩ : ∃ R, alikeB a b = R := ⟨_, rfl⟩
  rw [hR]
  have HR := hid hR
  have HB := hid hB
  rw [hs] at HB ⊢
  have HW := hid hW
  have HN1 := hid hN1
  have HN2 := hid hN2
  have hst := store_node w ca hla h1a
  have hst2 := store_node (w.alloc (.cells ca.toArray 39)) cb hlb h1b
  clear hW hN1 hN2 hca hcb hR hB
  go_enter Tryd.func72, Tryd.ntmps72
  go_upto_region 1 with fail
  rw [HW.out]
  clear hst hst2 hs HW
  obtain ⟨k0, k1, k2, k3, k4, k5, k6, k7, k8, k9, k10, k11, k12, k13, k14, k15, k16, k17, k18⟩ := HN1.out.cells
  obtain ⟨q0, q1, q2, q3, q4, q5, q6, q7, q8, q9, q10, q11, q12, q13, q14, q15, q16, q17, q18⟩ := HN2.out.cells
  have l0 := lt_of_block HN1.out
  have l1 := lt_of_block HN2.out
  clear k17 k18 q17 q18
  by_cases c0 : a.kind = b.kind
  rotate_left
  · have d0 : (a.kind == b.kind) = false := beq_eq_false_iff_ne.2 c0
    have hf : R = false := by
      rw [← HR.out]
      unfold alikeB
      rw [d0]
      rfl
    subst hf
    clear HR
    go_wp2
    refine bodyPost_ret (v := .bool false) (by simp [results, Tryd.results72, go_sem, *]) rfl ⟨rfl, HB.out⟩
  have d0 : (a.kind == b.kind) = true := beq_iff_eq.2 c0
  by_cases c1 : (a.name.toList == b.name.toList) = true
  rotate_left
  · have d1 : (a.name.toList == b.name.toList) = false := by simpa using c1
    have hf : R = false := by
      rw [← HR.out]
      unfold alikeB
      rw [d0, d1]
      rfl
    subst hf
    clear c1 HR
    go_wp2
    refine bodyPost_ret (v := .bool false) (by simp [results, Tryd.results72, go_sem, *]) rfl ⟨rfl, HB.out⟩
  have d1 := c1
  clear c1
  by_cases c2 : (a.cls.toList == b.cls.toList) = true
  rotate_left
  · have d2 : (a.cls.toList == b.cls.toList) = false := by simpa using c2
    have hf : R = false := by
      rw [← HR.out]
      unfold alikeB
      rw [d0, d1, d2]
      rfl
    subst hf
    clear c2 HR
    go_wp2
    refine bodyPost_ret (v := .bool false) (by simp [results, Tryd.results72, go_sem, *]) rfl ⟨rfl, HB.out⟩
  have d2 := c2
  clear c2
  by_cases c3 : (a.txt.toList == b.txt.toList) = true
  rotate_left
  · have d3 : (a.txt.toList == b.txt.toList) = false := by simpa using c3
    have hf : R = false := by
      rw [← HR.out]
      unfold alikeB
      rw [d0, d1, d2, d3]
      rfl
    subst hf
    clear c3 HR
    go_wp2
    refine bodyPost_ret (v := .bool false) (by simp [results, Tryd.results72, go_sem, *]) rfl ⟨rfl, HB.out⟩
  have d3 := c3
  clear c3
  by_cases c4 : a.mw = b.mw
  rotate_left
  · have d4 : (a.mw == b.mw) = false := beq_eq_false_iff_ne.2 c4
    have hf : R = false := by
      rw [← HR.out]
      unfold alikeB
      rw [d0, d1, d2, d3, d4]
      rfl
    subst hf
    clear HR
    go_wp2
    refine bodyPost_ret (v := .bool false) (by simp [results, Tryd.results72, go_sem, *]) rfl ⟨rfl, HB.out⟩
  have d4 : (a.mw == b.mw) = true := beq_iff_eq.2 c4
  by_cases c5 : a.mh = b.mh
  rotate_left
  · have d5 : (a.mh == b.mh) = false := beq_eq_false_iff_ne.2 c5
    have hf : R = false := by
      rw [← HR.out]
      unfold alikeB
      rw [d0, d1, d2, d3, d4, d5]
      rfl
    subst hf
    clear HR
    go_wp2
    refine bodyPost_ret (v := .bool false) (by simp [results, Tryd.results72, go_sem, *]) rfl ⟨rfl, HB.out⟩
  have d5 : (a.mh == b.mh) = true := beq_iff_eq.2 c5
  by_cases c6 : a.xw = b.xw
  rotate_left
  · have d6 : (a.xw == b.xw) = false := beq_eq_false_iff_ne.2 c6
    have hf : R = false := by
      rw [← HR.out]
      unfold alikeB
      rw [d0, d1, d2, d3, d4, d5, d6]
      rfl
    subst hf
    clear HR
    go_wp2
    refine bodyPost_ret (v := .bool false) (by simp [results, Tryd.results72, go_sem, *]) rfl ⟨rfl, HB.out⟩
  have d6 : (a.xw == b.xw) = true := beq_iff_eq.2 c6
  by_cases c7 : a.xh = b.xh
  rotate_left
  · have d7 : (a.xh == b.xh) = false := beq_eq_false_iff_ne.2 c7
    have hf : R = false := by
      rw [← HR.out]
      unfold alikeB
      rw [d0, d1, d2, d3, d4, d5, d6, d7]
      rfl
    subst hf
    clear HR
    go_wp2
    refine bodyPost_ret (v := .bool false) (by simp [results, Tryd.results72, go_sem, *]) rfl ⟨rfl, HB.out⟩
  have d7 : (a.xh == b.xh) = true := beq_iff_eq.2 c7
  by_cases c8 : a.grow = b.grow
  rotate_left
  · have d8 : (a.grow == b.grow) = false := beq_eq_false_iff_ne.2 c8
    have hf : R = false := by
      rw [← HR.out]
      unfold alikeB
      rw [d0, d1, d2, d3, d4, d5, d6, d7, d8]
      rfl
    subst hf
    clear HR
    go_wp2
    refine bodyPost_ret (v := .bool false) (by simp [results, Tryd.results72, go_sem, *]) rfl ⟨rfl, HB.out⟩
  have d8 : (a.grow == b.grow) = true := beq_iff_eq.2 c8
  by_cases c9 : a.order = b.order
  rotate_left
  · have d9 : (a.order == b.order) = false := beq_eq_false_iff_ne.2 c9
    have hf : R = false := by
      rw [← HR.out]
      unfold alikeB
      rw [d0, d1, d2, d3, d4, d5, d6, d7, d8, d9]
      rfl
    subst hf
    clear HR
    go_wp2
    refine bodyPost_ret (v := .bool false) (by simp [results, Tryd.results72, go_sem, *]) rfl ⟨rfl, HB.out⟩
  have d9 : (a.order == b.order) = true := beq_iff_eq.2 c9
  by_cases c10 : a.column = b.column
  rotate_left
  · have d10 : (a.column == b.column) = false := beq_eq_false_iff_ne.2 c10
    have hf : R = false := by
      rw [← HR.out]
      unfold alikeB
      rw [d0, d1, d2, d3, d4, d5, d6, d7, d8, d9, d10]
      rfl
    subst hf
    clear HR
    go_wp2
    refine bodyPost_ret (v := .bool false) (by simp [results, Tryd.results72, go_sem, *]) rfl ⟨rfl, HB.out⟩
  have d10 : (a.column == b.column) = true := beq_iff_eq.2 c10
  by_cases c11 : a.columns = b.columns
  rotate_left
  · have d11 : (a.columns == b.columns) = false := beq_eq_false_iff_ne.2 c11
    have hf : R = false := by
      rw [← HR.out]
      unfold alikeB
      rw [d0, d1, d2, d3, d4, d5, d6, d7, d8, d9, d10, d11]
      rfl
    subst hf
    clear HR
    go_wp2
    refine bodyPost_ret (v := .bool false) (by simp [results, Tryd.results72, go_sem, *]) rfl ⟨rfl, HB.out⟩
  have d11 : (a.columns == b.columns) = true := beq_iff_eq.2 c11
  by_cases c12 : a.span = b.span
  rotate_left
  · have d12 : (a.span == b.span) = false := beq_eq_false_iff_ne.2 c12
    have hf : R = false := by
      rw [← HR.out]
      unfold alikeB
      rw [d0, d1, d2, d3, d4, d5, d6, d7, d8, d9, d10, d11, d12]
      rfl
    subst hf
    clear HR
    go_wp2
    refine bodyPost_ret (v := .bool false) (by simp [results, Tryd.results72, go_sem, *]) rfl ⟨rfl, HB.out⟩
  have d12 : (a.span == b.span) = true := beq_iff_eq.2 c12
  by_cases c13 : a.gap = b.gap
  rotate_left
  · have d13 : (a.gap == b.gap) = false := beq_eq_false_iff_ne.2 c13
    have hf : R = false := by
      rw [← HR.out]
      unfold alikeB
      rw [d0, d1, d2, d3, d4, d5, d6, d7, d8, d9, d10, d11, d12, d13]
      rfl
    subst hf
    clear HR
    go_wp2
    refine bodyPost_ret (v := .bool false) (by simp [results, Tryd.results72, go_sem, *]) rfl ⟨rfl, HB.out⟩
  have d13 : (a.gap == b.gap) = true := beq_iff_eq.2 c13
  by_cases c14 : a.ox = b.ox
  rotate_left
  · have d14 : (a.ox == b.ox) = false := beq_eq_false_iff_ne.2 c14
    have hf : R = false := by
      rw [← HR.out]
      unfold alikeB
      rw [d0, d1, d2, d3, d4, d5, d6, d7, d8, d9, d10, d11, d12, d13, d14]
      rfl
    subst hf
    clear HR
    go_wp2
    refine bodyPost_ret (v := .bool false) (by simp [results, Tryd.results72, go_sem, *]) rfl ⟨rfl, HB.out⟩
  have d14 : (a.ox == b.ox) = true := beq_iff_eq.2 c14
  by_cases c15 : a.oy = b.oy
  rotate_left
  · have d15 : (a.oy == b.oy) = false := beq_eq_false_iff_ne.2 c15
    have hf : R = false := by
      rw [← HR.out]
      unfold alikeB
      rw [d0, d1, d2, d3, d4, d5, d6, d7, d8, d9, d10, d11, d12, d13, d14, d15]
      rfl
    subst hf
    clear HR
    go_wp2
    refine bodyPost_ret (v := .bool false) (by simp [results, Tryd.results72, go_sem, *]) rfl ⟨rfl, HB.out⟩
  have d15 : (a.oy == b.oy) = true := beq_iff_eq.2 c15
  by_cases c16 : a.hidden = b.hidden
  rotate_left
  · have d16 : (a.hidden == b.hidden) = false := beq_eq_false_iff_ne.2 c16
    have hf : R = false := by
      rw [← HR.out]
      unfold alikeB
      rw [d0, d1, d2, d3, d4, d5, d6, d7, d8, d9, d10, d11, d12, d13, d14, d15, d16]
      rfl
    subst hf
    clear HR
    go_wp2
    refine bodyPost_ret (v := .bool false) (by simp [results, Tryd.results72, go_sem, *]) rfl ⟨rfl, HB.out⟩
  have d16 : (a.hidden == b.hidden) = true := beq_iff_eq.2 c16
  have hf : R = true := by
    rw [← HR.out]
    unfold alikeB
    rw [d0, d1, d2, d3, d4, d5, d6, d7, d8, d9, d10, d11, d12, d13, d14, d15, d16]
    rfl
  subst hf
  clear HR
  go_wp2
  refine bodyPost_ret (v := .bool true) (by simp [results, Tryd.results72, go_sem, *]) rfl ⟨rfl, HB.out⟩
end Go.Proofs.YtnkojoajcdhngaaDoor
