/- Layer 8: Concat of two rows of nodes. -/
import Derived.Test.YtnkojoajcdhngaaDoorTr22
import Derived.Shelf.Spec.SlicesGrow
import Derived.Ground.Names8Prog
import Derived.Shelf.SlGeneric
namespace Go.Proofs.YtnkojoajcdhngaaDoor
set_option linter.unusedVariables false
set_option linter.unusedSimpArgs false
set_option maxRecDepth 100000
open Go.RowKit Go.Shelf Go.Lib
attribute [local go_sem] Oper.semAt_some
set_option maxRecDepth 100000
set_option maxHeartbeats 16000000
def Tryd.laysGrow_ren : Go.Shelf.Ren := ⟨fun | 4 => 93 | n => n, fun | 22 => 23 | 25 => 39 | 3 => 3 | 4 => 4 | 9 => 9 | 20 => 20 | 0 => 0 | n => n, fun | n => n⟩
theorem Tryd.laysGrow : Go.Proofs.Lays8.n4 Tryd.prog Tryd.laysGrow_ren := {
  mixed := by kernel_rfl
  f4 := ⟨"slices.Grow[[]casement/api.Node,casement/api.Node]", by decide, Tryd.func93.trans (congrArg some (by kernel_rfl))⟩
  t0 := Tryd.underlying0
  a0 := Tryd.isAgg0
  z0 := Tryd.sizeOf0
  v0 := Tryd.zeroValue0
  t3 := Tryd.underlying3
  a3 := Tryd.isAgg3
  z3 := Tryd.sizeOf3
  v3 := Tryd.zeroValue3
  t4 := Tryd.underlying4
  a4 := Tryd.isAgg4
  z4 := Tryd.sizeOf4
  v4 := Tryd.zeroValue4
  t9 := Tryd.underlying9
  a9 := Tryd.isAgg9
  z9 := Tryd.sizeOf9
  v9 := Tryd.zeroValue9
  t20 := Tryd.underlying20
  a20 := Tryd.isAgg20
  z20 := Tryd.sizeOf20
  v20 := Tryd.zeroValue20
  t22 := Tryd.underlying23
  a22 := Tryd.isAgg23
  z22 := Tryd.sizeOf23
  v22 := Tryd.zeroValue23 }

/-- A node's wrappers and kids are read. -/
def TriR (B : Nat) (w : World) (t : Tri) : Prop := ∃ Aw cw Ak ck, t.2.1 = .slice Aw t.1.wraps.length cw ∧ t.2.2 = .slice Ak t.1.kids.length ck ∧ At B w Aw (wrs t.1.wraps) ∧ At B w Ak (ints t.1.kids) ∧ SlOk Aw t.1.wraps.length cw ∧ SlOk Ak t.1.kids.length ck
theorem TriR.below {B : Nat} {w w' : World} {t : Tri} (h : TriR B w t) (hb : Below B w w') : TriR B w' t := by
  obtain ⟨Aw, cw, Ak, ck, h1, h2, h3, h4, h5⟩ := h
  exact ⟨Aw, cw, Ak, ck, h1, h2, h3.below hb, h4.below hb, h5⟩
theorem TriR.mono {B B' : Nat} {w : World} {t : Tri} (h : TriR B w t) (hb : B ≤ B') : TriR B' w t := by
  obtain ⟨Aw, cw, Ak, ck, h1, h2, h3, h4, h5⟩ := h
  exact ⟨Aw, cw, Ak, ck, h1, h2, h3.mono hb, h4.mono hb, h5⟩
/-- Nodes in a row, by their cells. -/
theorem NdsAt.tri {B : Nat} {w : World} {A : Option Addr} {L : List Nd} (h : NdsAt B w A L) : ∃ T : List Tri, T.map (·.1) = L ∧ At B w A (cellsT T) ∧ ∀ t ∈ T, TriR B w t := by
  by_cases h0 : 0 < L.length
  · obtain ⟨g, o, rfl, hg, hc⟩ := h h0
    have step : ∀ k, k ≤ L.length → ∃ T : List Tri, T.map (·.1) = L.take k ∧ (∀ t ∈ T, TriR B w t) ∧ ∀ (j : Nat) (v : Value), (cellsT T)[j]? = some v → w.cell? ⟨g, o + j, none⟩ = some v := by
      intro k
      induction k with
      | zero =>
        intro _
        refine ⟨[], by simp, ?_, ?_⟩
        · intro t ht
          cases ht
        · intro j v hj
          simp [cellsT] at hj
      | succ k ih =>
        intro hk
        obtain ⟨T, h1, h2, h3⟩ := ih (by omega)
        obtain ⟨Aw, cw, Ak, ck, c1, c2, c3, c4, c5⟩ := hc k (by omega)
        have hTl : T.length = k := by
          have := congrArg List.length h1
          rw [List.length_map, List.length_take] at this
          omega
        refine ⟨T ++ [(L[k]'(by omega), .slice Aw (L[k]'(by omega)).wraps.length cw, .slice Ak (L[k]'(by omega)).kids.length ck)], ?_, fun t ht => ?_, fun j v hj => ?_⟩
        · rw [List.map_append, h1, List.take_succ_eq_append_getElem (by omega)]
          rfl
        · rcases List.mem_append.1 ht with ht | ht
          · exact h2 t ht
          · rw [List.mem_singleton] at ht
            subst ht
            exact ⟨Aw, cw, Ak, ck, rfl, rfl, c2, c3, c4, c5⟩
        · rw [cellsT_append] at hj
          by_cases hjl : j < (cellsT T).length
          · rw [List.getElem?_append_left hjl] at hj
            exact h3 j v hj
          · rw [List.getElem?_append_right (by omega), cellsT_len, hTl] at hj
            rw [cellsT_len, hTl] at hjl
            have := c1 (j - k * 19) v (by
              have e : cellsT [((L[k]'(by omega)), Value.slice Aw (L[k]'(by omega)).wraps.length cw, Value.slice Ak (L[k]'(by omega)).kids.length ck)] = ndC (L[k]'(by omega)) (.slice Aw (L[k]'(by omega)).wraps.length cw) (.slice Ak (L[k]'(by omega)).kids.length ck) := by
                show ndC _ _ _ ++ [] = _
                rw [List.append_nil]
              rw [e] at hj
              exact hj)
            rw [show o + k * 19 + (j - k * 19) = o + j by omega] at this
            exact this
    obtain ⟨T, h1, h2, h3⟩ := step L.length (Nat.le_refl _)
    rw [List.take_length] at h1
    exact ⟨T, h1, fun _ => ⟨g, o, rfl, hg, h3⟩, h2⟩
  · have : L = [] := List.eq_nil_of_length_eq_zero (by omega)
    subst this
    exact ⟨[], rfl, fun h => by simp [cellsT] at h, fun t ht => by cases ht⟩
theorem nds_tri {B base n c : Nat} {w : World} {A : Option Addr} {T : List Tri} (ho : w.ownsRow base 39 19 (.slice A n c) n (cellsT T)) (hn : T.length = n) (hr : ∀ t ∈ T, TriR B w t) (hB : B ≤ w.heap.size) : NdsAt w.heap.size w A (T.map (·.1)) := by
  intro hl
  rcases ho.2 with ⟨e, h0⟩ | ⟨g, cap, cur, e, hb, hh, hnc, hm, hs, ht⟩
  · rw [List.length_map] at hl
    omega
  · injection e with e1 e2 e3
    subst e1
    refine ⟨g, 0, rfl, lt_of_block hh, fun i hi => ?_⟩
    have hiT : i < T.length := by simpa using hi
    have hg : (T.map (·.1))[i] = T[i].1 := by simp
    obtain ⟨Aw, cw, Ak, ck, ew, ek, h3, h4, h5⟩ := hr T[i] (List.getElem_mem hiT)
    rw [hg]
    refine ⟨Aw, cw, Ak, ck, fun j v hj => ?_, h3.mono hB, h4.mono hB, h5⟩
    have hc := cellsT_at T i j hiT v (by rw [ew, ek]; exact hj)
    rw [← ht, List.getElem?_take] at hc
    split at hc
    · rw [blk_cell hh, Nat.zero_add]
      simpa using hc
    · cases hc
theorem Grow_any (n : Nat) (w : World) (hn : n ≤ 2048) (h0 : 0 < n) : Calls Tryd.prog 93 #[.slice none 0 0, .int .i64 (n : Int)] w fun e w' =>
    ∃ A c, e = .returned (.slice A 0 c) ∧ w'.ownsRow w.heap.size 39 19 (.slice A 0 c) 0 [] ∧ Below w.heap.size w w' := by
  obtain ⟨i0, hi, hz0, hz1, hz2⟩ := info_parts info_nd
  have e25 : Tryd.laysGrow_ren.t 25 = 39 := rfl
  have C : Calls Tryd.prog 93 #[.slice none 0 0, .int .i64 (n : Int)] w _ :=
    Any8.slices_Grow_grow Tryd.laysGrow i0 _ hi hz0 (by omega) none 0 0 n [] w (Nat.le_refl _) (by omega) (by rw [hz2]; omega) (by omega) (by simp) (fun _ => rfl) (fun a h => by cases h)
  refine C.mono ?_
  rintro e w' ⟨rfl, rfl⟩
  rw [e25]
  have hge := grownCap_ge w (0 + n) 0 39
  have hmx := grownCap_le_maxLen w (0 + n) 0 39 (by unfold maxLen; omega)
  refine ⟨_, _, rfl, ⟨rfl, .inr ⟨w.heap.size, _, _, rfl, Nat.le_refl _, World.alloc_heap_new _ _, Nat.zero_le _, hmx, ?_, by simp⟩⟩, (Below.refl _ _).drew.alloc (Nat.le_refl _) _⟩
  simp only [Array.size_append, List.size_toArray, size_zeroCells, List.length_nil]
  simp only [Value.cells, List.size_toArray, List.length_cons, List.length_nil]
  omega
theorem cells_one {B : Nat} {w : World} {T : List Tri} (h : ∀ t ∈ T, TriR B w t) : ∀ u ∈ cellsT T, u.oneCell' = true := by
  intro u hu
  obtain ⟨t, ht, hut⟩ := List.mem_flatMap.1 hu
  obtain ⟨Aw, cw, Ak, ck, e1, e2, _⟩ := h t ht
  rw [e1, e2] at hut
  have := ndC_one t.1 (Aw := Aw) (Ak := Ak) (lw := t.1.wraps.length) (cw := cw) (lk := t.1.kids.length) (ck := ck)
  rw [Array.all_eq_true_iff_forall_mem] at this
  exact this u (by simpa using hut)
def TriS (T1 T2 : List Tri) : Nat → List Tri
  | 0 => []
  | 1 => T1
  | _ => T1 ++ T2
theorem Concat_any {B : Nat} (L1 L2 : List Nd) (A1 A2 : Option Addr) (c1 c2 vb : Nat) (w : World) (hvb : w.heap[vb]? = some (.cells #[.slice A1 L1.length c1, .slice A2 L2.length c2] 23 (0, 0))) (h1 : NdsAt B w A1 L1) (h2 : NdsAt B w A2 L2) (hB : B ≤ w.heap.size) (hl : L1.length + L2.length ≤ 2048) (h01 : 0 < L1.length) (h02 : 0 < L2.length) :
    Calls Tryd.prog 57 #[.slice (some ⟨vb, 0, none⟩) 2 2] w fun e w' => ∃ A c, e = .returned (.slice A (L1.length + L2.length) c) ∧ NdsAt w'.heap.size w' A (L1 ++ L2) ∧ Below w.heap.size w w' := by
  obtain ⟨T1, hT1, a1, r1⟩ := h1.tri
  obtain ⟨T2, hT2, a2, r2⟩ := h2.tri
  obtain ⟨n1, hn1⟩ : ∃ n1, L1.length = n1 := ⟨_, rfl⟩
  obtain ⟨n2, hn2⟩ : ∃ n2, L2.length = n2 := ⟨_, rfl⟩
  have ht1 : T1.length = n1 := by rw [← hn1, ← hT1, List.length_map]
  have ht2 : T2.length = n2 := by rw [← hn2, ← hT2, List.length_map]
  have C := Grow_any (n1 + n2) w (by omega) (by omega)
  rw [hn1, hn2] at hvb hl ⊢
  have k0 : w.cell? ⟨vb, 0, none⟩ = some (.slice A1 n1 c1) := by rw [blk_cell hvb]; rfl
  have k1 : w.cell? ⟨vb, 1, none⟩ = some (.slice A2 n2 c2) := by rw [blk_cell hvb]; rfl
  have kl := lt_of_block hvb
  have HA1 := hid a1
  have HA2 := hid a2
  have HR1 := hid r1
  have HR2 := hid r2
  have HT1 := hid hT1
  have HT2 := hid hT2
  have HL1 := hid ht1
  have HL2 := hid ht2
  have p1 : 0 < n1 := by omega
  have p2 : 0 < n2 := by omega
  have hnil1 : A1 ≠ none := fun e => by
    obtain ⟨g, o, hA, _⟩ := h1 (by omega)
    rw [e] at hA
    cases hA
  have hnil2 : A2 ≠ none := fun e => by
    obtain ⟨g, o, hA, _⟩ := h2 (by omega)
    rw [e] at hA
    cases hA
  have HVB := hid hvb
  clear a1 a2 r1 r2 hT1 hT2 ht1 ht2 h1 h2 hn1 hn2 h01 h02 hvb
  go_enter Tryd.func57, Tryd.ntmps57
  go_wp2
  go_loopg [3, 11] 2 (fun gh v3 v11 wr => ∃ (i : Nat) (s : Int), v3 = .int .i64 s ∧ v11 = .int .i64 (i : Int) ∧ w = wr ∧ 2 - i ≤ gh ∧ ((i = 0 ∧ s = 0) ∨ (i = 1 ∧ s = n1) ∨ (i = 2 ∧ s = (n1 : Int) + n2)))
  case atStart => exact ⟨0, 0, rfl, rfl, rfl, by omega, .inl ⟨rfl, rfl⟩⟩
  case round =>
    obtain ⟨i, s, rfl, rfl, rfl, hgh, ⟨rfl, rfl⟩ | ⟨rfl, rfl⟩ | ⟨rfl, rfl⟩⟩ := hrel
    · go_wp2
      go_roundg 1
      case measure => omega
      case rel => exact ⟨1, n1, by simp, rfl, rfl, by omega, .inr (.inl ⟨rfl, rfl⟩)⟩
    · have q : ¬ ((n1 : Int) + (n2 : Int) < 0) := by omega
      go_wp2
      go_roundg 0
      case measure => omega
      case rel => exact ⟨2, (n1 : Int) + n2, rfl, rfl, rfl, by omega, .inr (.inr ⟨rfl, rfl⟩)⟩
    · have e12 : ((n1 + n2 : Nat) : Int) = (n1 : Int) + (n2 : Int) := by omega
      rw [e12] at C
      go_wp2_with fail
      with_reducible refine C.mono ?_
      rintro e w2 ⟨A0, c0, rfl, ho0, hb2⟩
      have HB2 := hid hb2
      have HO0 := hid ho0
      obtain ⟨i0, hi1, hz0, hz1, hz2⟩ := info_parts info_nd
      clear C hb2 ho0
      go_wp2
      go_loopg [6, 27] 2 (fun gh v6 v27 wr => ∃ (i m c : Nat) (A : Option Addr), v6 = .slice A m c ∧ v27 = .int .i64 (i : Int) ∧ 2 - i ≤ gh ∧ ((i = 0 ∧ m = 0) ∨ (i = 1 ∧ m = n1) ∨ (i = 2 ∧ m = n1 + n2)) ∧ Hid (wr.ownsRow w.heap.size 39 19 (.slice A m c) m (cellsT (TriS T1 T2 i))) ∧ Hid (Below w.heap.size w wr))
      case atStart => exact ⟨0, 0, c0, A0, rfl, rfl, by omega, .inl ⟨rfl, rfl⟩, HO0, HB2⟩
      case round =>
        obtain ⟨i, m, c, A, rfl, rfl, hgh2, hcase, HOr, HBr⟩ := hrel
        have hsr := HBr.out.size
        have d0 : wr.cell? ⟨vb, 0, none⟩ = some (.slice A1 n1 c1) := by rw [HBr.out.cell (p := ⟨vb, 0, none⟩) kl]; exact k0
        have d1 : wr.cell? ⟨vb, 1, none⟩ = some (.slice A2 n2 c2) := by rw [HBr.out.cell (p := ⟨vb, 1, none⟩) kl]; exact k1
        have dl : vb < wr.heap.size := by omega
        rcases hcase with ⟨rfl, rfl⟩ | ⟨rfl, rfl⟩ | ⟨rfl, rfl⟩
        · have hAt := HA1.out.below (HBr.out.mono hB)
          go_wp2_with (first | (at_builtin; refine append_many Tryd.underlying23 hi1 hz0 hz1 hz2 rfl (by decide) rfl (.tmp 31) (.tmp 32) rfl w.heap.size (.slice A 0 c) 0 (cellsT (TriS T1 T2 0)) A1 n1 c1 B (cellsT T1) rfl rfl (fun h => absurd h hnil1) HOr.out hAt (by rw [cellsT_len, HL1.out]) (fun u hu => ?_) ?_ ?_ ?_ ?_))
          · exact cells_one HR1.out u hu
          · unfold maxLen; omega
          · omega
          · omega
          intro v2 w3 hown2 hg2
          obtain ⟨A3, c3, rfl⟩ := own_shape hown2
          have hb3 := HBr.out.grown hg2 hsr (own_ge HOr.out)
          first | rw [Nat.zero_add] at hown2 | skip
          have HO3 := hid (show w3.ownsRow w.heap.size 39 19 (.slice A3 n1 c3) n1 (cellsT (TriS T1 T2 1)) from by
            simpa [TriS, cellsT] using hown2)
          have HB3 := hid hb3
          clear hown2 hg2 hb3 hAt
          go_wp2
          go_roundg 1
          case measure => omega
          case rel => exact ⟨1, n1, c3, A3, by first | rfl | simp, by go_num, by omega, .inr (.inl ⟨rfl, rfl⟩), HO3, HB3⟩
        · have hAt := HA2.out.below (HBr.out.mono hB)
          go_wp2_with (first | (at_builtin; refine append_many Tryd.underlying23 hi1 hz0 hz1 hz2 rfl (by decide) rfl (.tmp 31) (.tmp 32) rfl w.heap.size (.slice A m c) m (cellsT (TriS T1 T2 1)) A2 n2 c2 B (cellsT T2) rfl rfl (fun h => absurd h hnil2) HOr.out hAt (by rw [cellsT_len, HL2.out]) (fun u hu => ?_) ?_ ?_ ?_ ?_))
          · exact cells_one HR2.out u hu
          · unfold maxLen; omega
          · omega
          · omega
          intro v2 w3 hown2 hg2
          obtain ⟨A3, c3, rfl⟩ := own_shape hown2
          have hb3 := HBr.out.grown hg2 hsr (own_ge HOr.out)
          have HO3 := hid (show w3.ownsRow w.heap.size 39 19 (.slice A3 (m + n2) c3) (m + n2) (cellsT (TriS T1 T2 2)) from by
            show w3.ownsRow w.heap.size 39 19 (.slice A3 (m + n2) c3) (m + n2) (cellsT (T1 ++ T2))
            rw [cellsT_append]
            exact hown2)
          have HB3 := hid hb3
          clear hown2 hg2 hb3 hAt
          go_wp2
          go_roundg 0
          case measure => omega
          case rel => exact ⟨2, m + n2, c3, A3, rfl, by go_num, by omega, .inr (.inr ⟨rfl, rfl⟩), HO3, HB3⟩
        · have hnd := nds_tri (B := w.heap.size) (T := T1 ++ T2) HOr.out (by rw [List.length_append, HL1.out, HL2.out]) (fun t ht => by
            rcases List.mem_append.1 ht with ht | ht
            · exact ((HR1.out t ht).below (HBr.out.mono hB)).mono hB
            · exact ((HR2.out t ht).below (HBr.out.mono hB)).mono hB) hsr
          rw [List.map_append, HT1.out, HT2.out] at hnd
          have HND := hid hnd
          clear hnd
          go_wp2
          refine bodyPost_ret (v := .slice A (n1 + n2) c) (by simp [results, Tryd.results57, go_sem, *]) rfl ⟨A, c, rfl, HND.out, HBr.out⟩
end Go.Proofs.YtnkojoajcdhngaaDoor
