/- Layer 8: Take. -/
import Derived.Test.YtnkojoajcdhngaaDoorTr25
import Derived.Test.YtnkojoajcdhngaaDoorTr23
namespace Go.Proofs.YtnkojoajcdhngaaDoor
set_option linter.unusedVariables false
set_option linter.unusedSimpArgs false
set_option maxRecDepth 100000
open Go.RowKit Go.Shelf Go.Lib
attribute [local go_sem] Oper.semAt_some
set_option maxRecDepth 100000
set_option maxHeartbeats 16000000

theorem formL_ok {L : List Nd} {K : Nat → List Int} {O : List Int} (hok : ∀ n ∈ L, n.ok) (hK : ∀ i, (K i).length ≤ 1000000) : ∀ n ∈ formL L K O, n.ok := by
  intro n hn
  obtain ⟨x, _, hx⟩ := List.mem_filterMap.1 hn
  unfold mkN at hx
  rw [Option.map_eq_some_iff] at hx
  obtain ⟨nd, h1, rfl⟩ := hx
  obtain ⟨i, hi⟩ := List.getElem?_eq_some_iff.1 h1
  have ho := hok nd (hi ▸ List.getElem_mem i)
  have := hK x.toNat
  exact ⟨ho.1, ho.2.1, ho.2.2.1, ho.2.2.2.1, ho.2.2.2.2.1, ho.2.2.2.2.2.1, by show ((K x.toNat).map (posI O)).length ≤ 9000000000000; rw [List.length_map]; omega⟩
theorem KTree.lens {K : Nat → List Int} {N m : Nat} {par D : Nat → Nat} (h : KTree K N m par D) (hN : N ≤ 2048) (h0 : ∀ i, N ≤ i → K i = []) (i : Nat) : (K i).length ≤ 1000000 := by
  by_cases hi : i < N
  · have := h.kl hi
    omega
  · rw [h0 i (by omega)]
    exact Nat.zero_le _
theorem TreeOk.tak {L : List Nd} {U D : List Int} (h : TreeOk L U D) (node : Int) : KTree (takF L node) L.length 64 (fun j => (U.getD j 0).toNat) (fun j => (D.getD j 0).toNat) :=
  ⟨fun i hi k hk => h.kt.kr i hi k (List.mem_filter.1 hk).1, fun i hi => (h.kt.kn i hi).sublist List.filter_sublist, h.kt.db⟩
theorem takF_out (L : List Nd) (node : Int) (i : Nat) (h : L.length ≤ i) : takF L node i = [] := by
  unfold takF
  rw [kidF_out L i h]
  rfl
def takR (L : List Nd) (node : Int) : List Nd := formL L (takF L node) (ordL (takF L node) 0)
def takeE (L : List Nd) (node : Int) : List Nd × Int := if askC L [node] ≠ 0 then ([], askC L [node]) else if node = 0 then ([], 2) else (toldL (takR L node), chkC (takR L node))
theorem Take_any {B : Nat} (L : List Nd) (hok : ∀ n ∈ L, n.ok) (A : Option Addr) (c : Nat) (node : Int) (w : World) (hT : Tabs w) (hA : NdsAt B w A L) (hB : B ≤ w.heap.size) (hl : L.length ≤ 9000000000000) :
    Calls Tryd.prog 19 #[.agg #[.slice A L.length c], .int .i64 node] w (SpcP w (takeE L node).1 (takeE L node).2) := by
  obtain ⟨n, hn⟩ : ∃ n, w.heap.size = n := ⟨_, rfl⟩
  obtain ⟨W, hW⟩ : ∃ W, allocs w [Obj.cells #[.slice A L.length c] 25 (0, 0), Obj.cells #[.slice none 0 0] 25 (0, 0)] = W := ⟨_, rfl⟩
  have g0 := allocs_get [Obj.cells #[.slice A L.length c] 25 (0, 0), Obj.cells #[.slice none 0 0] 25 (0, 0)] w 0 _ rfl
  have g1 := allocs_get [Obj.cells #[.slice A L.length c] 25 (0, 0), Obj.cells #[.slice none 0 0] 25 (0, 0)] w 1 _ rfl
  have hbl := allocs_below [Obj.cells #[.slice A L.length c] 25 (0, 0), Obj.cells #[.slice none 0 0] 25 (0, 0)] w
  rw [hW] at g0 g1 hbl
  rw [hn] at g0 g1 hbl
  have hs1 := hbl.size
  have hA1 := hA.below (hbl.mono (by omega))
  have hTW : Tabs W := tabs_on hT (by rw [hn]; exact hbl)
  have C := asked1 L hok A c node W hTW hA1 (by omega) (by omega)
  have B0 : Box1 W n _ := Box1.of_heap g0
  have B1 : Box1 W (n + 1) _ := Box1.of_heap g1
  simp only [allocs] at hW
  have HW := hid hW
  have HBL := hid hbl
  have HB0 := hid B0
  have HB1 := hid B1
  have HN := hid hn
  have k0 := B0.c
  have h0 := @askC_zero L [node]
  unfold takeE
  obtain ⟨E, hE⟩ : ∃ E, askC L [node] = E := ⟨_, rfl⟩
  rw [hE] at h0 C ⊢
  by_cases he : E = 0
  · subst he
    rw [if_neg (by decide)]
    obtain ⟨hc, ho⟩ := h0 rfl
    unfold chkB at hc
    obtain ⟨⟨U, D⟩, hUD⟩ : ∃ x, parE L = some x := Option.isSome_iff_exists.1 hc
    have hTO := parE_ok hUD
    simp only [List.any_cons, List.any_nil, Bool.or_false] at ho
    obtain ⟨o1, o2⟩ := outB_false ho
    by_cases hz : node = 0
    · subst hz
      rw [if_pos rfl]
      obtain ⟨m, hm⟩ : ∃ m, L.length = m := ⟨_, rfl⟩
      rw [hm] at C HW k0 HB0 ⊢
      clear hc ho h0 hE hUD hA hA1 hok hT hTW hW hbl B0 B1 g0 g1 hl hTO hn hm
      go_enter Tryd.func19, Tryd.ntmps19
      go_upto_region 1 with fail
      rw [HW.out, HN.out]
      go_wp2_with fail
      with_reducible refine C.mono ?_
      rintro e w2 ⟨rfl, hb2⟩
      have P1 := HB1.out.below hb2 HB1.out.lt
      have hsW := HB1.out.lt
      have hbE := hid ((HBL.out.trans (hb2.mono (by omega))).setCell (p := ⟨n + 1, 0, none⟩) (by show n ≤ n + 1; omega) (.slice none 0 0))
      have Q1 := hid (P1.set (.slice none 0 0))
      obtain ⟨c1, f1⟩ := P1
      have l1 := HB1.out.lt
      have s2 := hb2.size
      clear C k0 hb2
      go_wp2
      generalize w2.setCell ⟨n + 1, 0, none⟩ (.slice none 0 0) = E9 at *
      obtain ⟨c9, _⟩ := Q1.out
      refine bodyPost_ret (v := .tuple #[.agg #[.slice none 0 0], .int .i64 2]) (by simp [results, Tryd.results19, go_sem, *]) rfl ⟨none, 0, rfl, SpecO.nil, by rw [HN.out]; exact hbE.out⟩
    · rw [if_neg hz]
      have hkt := hTO.tak node
      have hn2 := hTO.n2
      have hn1 := hTO.n1
      have hRok : ∀ x ∈ takR L node, x.ok := formL_ok hok (hkt.lens (by omega) (takF_out L node))
      have KC := fun (w2 : World) (hb : Below W.heap.size W w2) => taken_any L hok A c node w2 (hA1.below (hb.mono (by omega))) (by have := hb.size; omega) (by omega) (hTO.kt.lens (by omega) (kidF_out L))
      have FC := fun (w3 : World) (gl : Nat) (vs : List Value) (base : Nat) (hR : Rws base gl (takF L node) vs w3) (hvl : vs.length = L.length) (hb : Below W.heap.size W w3) =>
        form_tree L hok A c L.length 0 w3 (hA1.below (hb.mono (by omega))) (by have := hb.size; omega) hR hvl (by omega) (takF_out L node) hkt (by decide) (Int.le_refl 0) (by omega) hTO.wl
      have TC := fun (w4 : World) (b0 : Nat) (A4 : Option Addr) (c4 : Nat) (hS : SpecO b0 w4 A4 c4 (takR L node)) (hb : Below W.heap.size W w4) =>
        told_any (takR L node) hRok b0 A4 c4 w4 (tabs_on hTW hb) hS
      unfold TakP at KC
      unfold FormP at FC
      obtain ⟨m, hm⟩ : ∃ m, L.length = m := ⟨_, rfl⟩
      have hRR : formL L (takF L node) (ordL (takF L node) 0) = takR L node := rfl
      rw [hRR] at FC
      obtain ⟨R, hR⟩ : ∃ R, takR L node = R := ⟨_, rfl⟩
      rw [hR] at FC TC ⊢
      have HKC := hid KC
      have HFC := hid FC
      have HTC := hid TC
      rw [hm] at C HW k0 HB0 HKC HFC ⊢
      have hz0 : (node == 0) = false := beq_eq_false_iff_ne.2 hz
      obtain ⟨RT, hRT⟩ : ∃ RT, toldL R = RT := ⟨_, rfl⟩
      obtain ⟨RZ, hRZ⟩ : ∃ RZ, chkC R = RZ := ⟨_, rfl⟩
      rw [hRT, hRZ] at HTC ⊢
      clear hc ho h0 hE hUD hA hA1 hok hT hTW hW hbl B0 B1 g0 g1 hl KC FC TC hTO hR hn hm hRok hkt hRR hRT hRZ
      go_enter Tryd.func19, Tryd.ntmps19
      go_upto_region 1 with fail
      rw [HW.out, HN.out]
      go_wp2_with fail
      with_reducible refine C.mono ?_
      rintro e w2 ⟨rfl, hb2⟩
      have k2 : w2.cell? ⟨n, 0, none⟩ = some (.slice A m c) := (HB0.out.below hb2 HB0.out.lt).c
      clear C k0
      have hb2d := hb2.drew
      go_wp2
      go_region_held3 (fun wz => wz.cell? ⟨n, 0, none⟩ = some (.slice A m c)) (first | assumption | (simpa using k2) | (simp [*] ; done) | (rw [World.cell?_setCell_other _ _ _ _ (by simp)]; assumption)) (first
        | (go_at_call 59; with_reducible refine (HKC.out _ hb2d).mono ?_; rintro r w3 ⟨gl, vs, rfl, hvl, hR3, hb3⟩; have hbW3 := hb2d.trans (hb3.mono hb2d.size); have k3 := (HB0.out.below hbW3 HB0.out.lt).c)
        | (go_at_call 56; with_reducible refine (HFC.out _ _ _ _ hR3 hvl hbW3).mono ?_; rintro r w4 ⟨A4, c4, rfl, hS4, hb4⟩; have hbW4 := hbW3.trans (hb4.mono hbW3.size); have k4 := (HB0.out.below hbW4 HB0.out.lt).c)
        | (go_at_call 55; with_reducible refine (HTC.out _ _ _ _ hS4 hbW4).mono ?_; rintro r w5 ⟨A5, c5, rfl, hS5, hb5⟩; have hbW5 := hbW4.trans (hb5.mono hbW4.size); have k5 := (HB0.out.below hbW5 HB0.out.lt).c; obtain ⟨d5, e5⟩ := HB1.out.below hbW5 HB1.out.lt))
      all_goals
        have l4 := (HB1.out.below hbW5 HB1.out.lt).lt
        have hs3 := hbW3.size
        have hsW := HB1.out.lt
        have hbE := hid ((HBL.out.trans (hbW5.mono (by omega))).setCell (p := ⟨n + 1, 0, none⟩) (by show n ≤ n + 1; omega) (.slice A5 RT.length c5))
        have hSE := hid ((hS5.off (b := n + 1) (j := 0) (u := .slice A5 RT.length c5) (by omega)).mono (show n ≤ w3.heap.size by omega))
        have Q1 := hid ((HB1.out.below hbW5 HB1.out.lt).set (.slice A5 RT.length c5))
        clear hS4 hS5 hb5 hb4 hb3 hR3 hbW3 hbW4 hbW5 k3 k4 k5 d5 e5 hb2 hb2d
        generalize w5.setCell ⟨n + 1, 0, none⟩ (.slice A5 RT.length c5) = E at *
        obtain ⟨c9, _⟩ := Q1.out
        go_wp2
        refine bodyPost_ret (v := .tuple #[.agg #[.slice A5 RT.length c5], .int .i64 RZ]) (by simp [results, Tryd.results19, go_sem, *]) rfl ⟨A5, c5, rfl, by rw [HN.out]; exact hSE.out, by rw [HN.out]; exact hbE.out⟩
  · rw [if_pos he]
    obtain ⟨m, hm⟩ : ∃ m, L.length = m := ⟨_, rfl⟩
    rw [hm] at C k0 HW HB0 ⊢
    have he0 : (E == 0) = false := beq_eq_false_iff_ne.2 he
    clear h0 hE hm hA hA1 hok hT hTW hW hbl g0 g1 hl hn B0 B1
    go_enter Tryd.func19, Tryd.ntmps19
    go_upto_region 1 with fail
    rw [HW.out, HN.out]
    go_wp2_with fail
    with_reducible refine C.mono ?_
    rintro e w2 ⟨rfl, hb2⟩
    have P1 := HB1.out.below hb2 HB1.out.lt
    have hsW := HB1.out.lt
    have hbE := hid ((HBL.out.trans (hb2.mono (by omega))).setCell (p := ⟨n + 1, 0, none⟩) (by show n ≤ n + 1; omega) (.slice none 0 0))
    have Q1 := hid (P1.set (.slice none 0 0))
    obtain ⟨c1, f1⟩ := P1
    have l1 := HB1.out.lt
    have s2 := hb2.size
    clear C k0 hb2
    go_wp2
    generalize w2.setCell ⟨n + 1, 0, none⟩ (.slice none 0 0) = E9 at *
    obtain ⟨c9, _⟩ := Q1.out
    refine bodyPost_ret (v := .tuple #[.agg #[.slice none 0 0], .int .i64 E]) (by simp [results, Tryd.results19, go_sem, *]) rfl ⟨none, 0, rfl, SpecO.nil, by rw [HN.out]; exact hbE.out⟩
end Go.Proofs.YtnkojoajcdhngaaDoor
