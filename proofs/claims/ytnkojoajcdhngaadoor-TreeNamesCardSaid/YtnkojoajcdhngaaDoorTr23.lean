/- Layer 8: form of a tree; told; Cut, Norm. -/
import Derived.Test.YtnkojoajcdhngaaDoorTr22
import Derived.Test.YtnkojoajcdhngaaDoorTrAe
import Derived.Test.YtnkojoajcdhngaaDoorTrPp
import Derived.Deep.RegionHeld3
namespace Go.Proofs.YtnkojoajcdhngaaDoor
set_option linter.unusedVariables false
set_option linter.unusedSimpArgs false
set_option maxRecDepth 100000
open Go.RowKit Go.Shelf Go.Lib
attribute [local go_sem] Oper.semAt_some
set_option maxRecDepth 100000
set_option maxHeartbeats 16000000

theorem TreeOk.wl {L : List Nd} {U D : List Int} (h : TreeOk L U D) : ∀ n ∈ L, n.wraps.length ≤ 16 := by
  intro n hn
  obtain ⟨i, hi, rfl⟩ := List.getElem_of_mem hn
  have := h.may i hi
  unfold mayB nodeB at this
  simp only [Bool.and_eq_true, decide_eq_true_eq] at this
  exact this.1.1.2.2.2.2
/-- form, where the kids make a tree. -/
theorem form_tree {B base gl m : Nat} {K : Nat → List Int} {vs : List Value} {par D : Nat → Nat} (L : List Nd) (hok : ∀ n ∈ L, n.ok) (A : Option Addr) (c cap : Nat) (node : Int) (w : World) (hA : NdsAt B w A L) (hB : B ≤ w.heap.size) (hR : Rws base gl K vs w) (hvl : vs.length = L.length)
    (hN : L.length ≤ 2048) (hk0 : ∀ i, L.length ≤ i → K i = []) (hKT : KTree K L.length m par D) (hm : m < 200) (h0 : 0 ≤ node) (h1 : node < L.length) (hwl : ∀ n ∈ L, n.wraps.length ≤ 16) :
    Calls Tryd.prog 56 #[.slice A L.length c, .slice (some ⟨gl, 0, none⟩) L.length cap, .int .i64 node] w (FormP w (formL L K (ordL K node))) := by
  have hd := hKT.dep h0 h1 hm
  have := form_any L hok A c cap 200 node w hA hB hR hvl (by omega) (fun i => by
    by_cases hi : i < L.length
    · have := hKT.kl hi
      omega
    · rw [hk0 i (by omega)]
      exact Nat.zero_le _) (by rw [hvl]; exact hd) (by decide) (hKT.nodup 200 node 1 hd) (by have := hKT.len (up := false) (d := 1) hd; omega) hwl
  rw [hvl] at this
  exact this
def SpcP (w : World) (R : List Nd) (z : Int) (e : Ending) (w' : World) : Prop := ∃ A c, e = .returned (.tuple #[.agg #[.slice A R.length c], .int .i64 z]) ∧ SpecO w.heap.size w' A c R ∧ Below w.heap.size w w'
def toldL (R : List Nd) : List Nd := if chkB R then R else []
theorem told_any (R : List Nd) (hok : ∀ n ∈ R, n.ok) (b0 : Nat) (A : Option Addr) (c : Nat) (w : World) (hT : Tabs w) (hS : SpecO b0 w A c R) :
    Calls Tryd.prog 55 #[.agg #[.slice A R.length c]] w fun e w' => ∃ A2 c2, e = .returned (.tuple #[.agg #[.slice A2 (toldL R).length c2], .int .i64 (chkC R)]) ∧ SpecO b0 w' A2 c2 (toldL R) ∧ Below w.heap.size w w' := by
  obtain ⟨n, hn⟩ : ∃ n, w.heap.size = n := ⟨_, rfl⟩
  obtain ⟨W, hW⟩ : ∃ W, allocs w [Obj.cells #[.slice A R.length c] 25 (0, 0), Obj.cells #[.slice none 0 0] 25 (0, 0)] = W := ⟨_, rfl⟩
  have g0 := allocs_get [Obj.cells #[.slice A R.length c] 25 (0, 0), Obj.cells #[.slice none 0 0] 25 (0, 0)] w 0 _ rfl
  have g1 := allocs_get [Obj.cells #[.slice A R.length c] 25 (0, 0), Obj.cells #[.slice none 0 0] 25 (0, 0)] w 1 _ rfl
  have hbl := allocs_below [Obj.cells #[.slice A R.length c] 25 (0, 0), Obj.cells #[.slice none 0 0] 25 (0, 0)] w
  rw [hW] at g0 g1 hbl
  rw [hn] at g0 g1 hbl
  have hSW := hS.below (by rw [hn]; exact hbl)
  have C := TCheck_any R hok A c W (tabs_on hT (by rw [hn]; exact hbl)) hSW.nds.1 (Nat.le_refl _)
  have B0 : Box1 W n _ := Box1.of_heap g0
  have B1 := Box1.of_heap g1
  simp only [allocs] at hW
  have HW := hid hW
  have HBL := hid hbl
  have HS := hid hS
  have HB0 := hid B0
  have HB1 := hid B1
  have HN := hid hn
  have k0 := B0.c
  unfold chkC at C ⊢
  unfold toldL
  obtain ⟨m, hm⟩ : ∃ m, R.length = m := ⟨_, rfl⟩
  have HM := hid hm
  generalize chkB R = X at *
  cases X with
  | false =>
    rw [if_neg (by decide)] at C
    rw [if_neg (by decide), if_neg (by decide)]
    rw [hm] at C HW k0 ⊢
    rw [hn]
    simp only [List.length_nil]
    clear hm hW hbl hSW B0 B1 g0 g1 hS hT hok
    go_enter Tryd.func55, Tryd.ntmps55
    go_upto_region 1 with fail
    rw [HW.out]
    clear hn
    go_wp2_with fail
    with_reducible refine C.mono ?_
    rintro e w2 ⟨rfl, hb2⟩
    have P1 := HB1.out.below hb2 HB1.out.lt
    have hsW := HB1.out.lt
    have hbE := hid ((HBL.out.trans (hb2.mono (by have := HBL.out.size; have := HN.out; omega))).setCell (p := ⟨n + 1, 0, none⟩) (by show n ≤ n + 1; omega) (.slice none 0 0))
    have Q1 := hid (P1.set (.slice none 0 0))
    obtain ⟨c1, f1⟩ := P1
    have l1 := HB1.out.lt
    have s2 := hb2.size
    clear C k0 hb2
    go_wp2
    generalize w2.setCell ⟨n + 1, 0, none⟩ (.slice none 0 0) = E at *
    obtain ⟨c9, _⟩ := Q1.out
    refine bodyPost_ret (v := .tuple #[.agg #[.slice none 0 0], .int .i64 6]) (by simp [results, Tryd.results55, go_sem, *]) rfl ⟨none, 0, rfl, SpecO.nil, hbE.out⟩
  | true =>
    rw [if_pos rfl] at C
    rw [if_pos rfl, if_pos rfl]
    rw [hm] at C HW k0 HB0 ⊢
    rw [hn]
    clear hm hW hbl hSW B0 B1 g0 g1 hS hT hok
    go_enter Tryd.func55, Tryd.ntmps55
    go_upto_region 1 with fail
    rw [HW.out]
    clear hn
    go_wp2_with fail
    with_reducible refine C.mono ?_
    rintro e w2 ⟨rfl, hb2⟩
    have P1 := HB1.out.below hb2 HB1.out.lt
    have P0 := HB0.out.below hb2 HB0.out.lt
    have hbE := hid ((HBL.out.trans (hb2.mono (by have := HBL.out.size; have := HN.out; omega))).setCell (p := ⟨n + 1, 0, none⟩) (by show n ≤ n + 1; omega) (.slice A m c))
    have Q1 := hid (P1.set (.slice A m c))
    have hSE := hid (HS.out.below (by rw [HN.out]; exact hbE.out))
    obtain ⟨c1, f1⟩ := P1
    have c0 := P0.c
    have l1 := HB1.out.lt
    have s2 := hb2.size
    clear C k0 hb2 P0
    go_wp2
    generalize w2.setCell ⟨n + 1, 0, none⟩ (.slice A m c) = E at *
    obtain ⟨c9, _⟩ := Q1.out
    refine bodyPost_ret (v := .tuple #[.agg #[.slice A m c], .int .i64 0]) (by simp [results, Tryd.results55, go_sem, *]) rfl ⟨A, c, rfl, hSE.out, hbE.out⟩
theorem SpecO.off {base b j : Nat} {w : World} {A : Option Addr} {c : Nat} {L : List Nd} {u : Value} (h : SpecO base w A c L) (hb : b < base) : SpecO base (w.setCell ⟨b, j, none⟩ u) A c L :=
  h.turn (C := fun k => k = b) (Turn.set (C := fun k => k = b) (p := ⟨b, j, none⟩) rfl u) (fun k hk => by omega)
/-- The cut. -/
def cutL (L : List Nd) (node : Int) : List Nd := if askC L [node] = 0 then formL L (kidF L L.length) (ordL (kidF L L.length) node) else []
theorem kidF_out (L : List Nd) (i : Nat) (h : L.length ≤ i) : kidF L L.length i = [] := by
  unfold kidF
  rw [if_neg (by omega)]
theorem Cut_any {B : Nat} (L : List Nd) (hok : ∀ n ∈ L, n.ok) (A : Option Addr) (c : Nat) (node : Int) (w : World) (hT : Tabs w) (hA : NdsAt B w A L) (hB : B ≤ w.heap.size) (hl : L.length ≤ 9000000000000) :
    Calls Tryd.prog 33 #[.agg #[.slice A L.length c], .int .i64 node] w (SpcP w (cutL L node) (askC L [node])) := by
  obtain ⟨n, hn⟩ : ∃ n, w.heap.size = n := ⟨_, rfl⟩
  obtain ⟨W, hW⟩ : ∃ W, allocs w [Obj.cells #[.slice A L.length c] 25 (0, 0), Obj.cells #[.slice none 0 0] 25 (0, 0)] = W := ⟨_, rfl⟩
  have g0 := allocs_get [Obj.cells #[.slice A L.length c] 25 (0, 0), Obj.cells #[.slice none 0 0] 25 (0, 0)] w 0 _ rfl
  have g1 := allocs_get [Obj.cells #[.slice A L.length c] 25 (0, 0), Obj.cells #[.slice none 0 0] 25 (0, 0)] w 1 _ rfl
  have hbl := allocs_below [Obj.cells #[.slice A L.length c] 25 (0, 0), Obj.cells #[.slice none 0 0] 25 (0, 0)] w
  rw [hW] at g0 g1 hbl
  rw [hn] at g0 g1 hbl
  have hs1 := hbl.size
  have hA1 := hA.below (hbl.mono (by omega))
  have C := asked1 L hok A c node W (tabs_on hT (by rw [hn]; exact hbl)) hA1 (by omega) (by omega)
  have B0 : Box1 W n _ := Box1.of_heap g0
  have B1 := Box1.of_heap g1
  simp only [allocs] at hW
  have HW := hid hW
  have HBL := hid hbl
  have HB0 := hid B0
  have HB1 := hid B1
  have HN := hid hn
  have HA := hid hA1
  have HO := hid hok
  have k0 := B0.c
  have h0 := @askC_zero L [node]
  unfold cutL
  obtain ⟨E, hE⟩ : ∃ E, askC L [node] = E := ⟨_, rfl⟩
  rw [hE] at h0 C ⊢
  by_cases he : E = 0
  · subst he
    obtain ⟨hc, ho⟩ := h0 rfl
    rw [if_pos rfl]
    unfold chkB at hc
    obtain ⟨⟨U, D⟩, hUD⟩ : ∃ x, parE L = some x := Option.isSome_iff_exists.1 hc
    have hTO := parE_ok hUD
    simp only [List.any_cons, List.any_nil, Bool.or_false] at ho
    obtain ⟨o1, o2⟩ := outB_false ho
    have KC := fun (w2 : World) (hb : Below W.heap.size W w2) => kids_any L hok A c w2 (hA1.below (hb.mono (by omega))) (by have := hb.size; omega) (by have := hTO.n2; omega)
    have FC := fun (w3 : World) (gl : Nat) (vs : List Value) (base : Nat) (hR : Rws base gl (kidF L L.length) vs w3) (hvl : vs.length = L.length) (hb : Below W.heap.size W w3) =>
      form_tree L hok A c L.length node w3 (hA1.below (hb.mono (by omega))) (by have := hb.size; omega) hR hvl (by have := hTO.n2; omega) (kidF_out L) hTO.kt (by decide) o1 o2 hTO.wl
    unfold KidsP at KC
    unfold FormP at FC
    have hn1 := hTO.n1
    obtain ⟨m, hm⟩ : ∃ m, L.length = m := ⟨_, rfl⟩
    obtain ⟨R, hR⟩ : ∃ R, formL L (kidF L L.length) (ordL (kidF L L.length) node) = R := ⟨_, rfl⟩
    rw [hR] at FC ⊢
    have HKC := hid KC
    have HFC := hid FC
    have HM := hid hm
    rw [hm] at C HW k0 HB0 HKC HFC ⊢
    clear hc ho h0 hE hUD hA hA1 hok hT hW hbl B0 B1 g0 g1 hl KC FC hTO hR hn hm
    go_enter Tryd.func33, Tryd.ntmps33
    go_upto_region 1 with fail
    rw [HW.out, HN.out]
    go_wp2_with fail
    with_reducible refine C.mono ?_
    rintro e w2 ⟨rfl, hb2⟩
    have k2 : w2.cell? ⟨n, 0, none⟩ = some (.slice A m c) := (HB0.out.below hb2 HB0.out.lt).c
    clear C k0
    have hb2d := hb2.drew
    have HB2 := hid hb2
    go_wp2
    go_region_held3 (fun wz => wz.cell? ⟨n, 0, none⟩ = some (.slice A m c)) (first | assumption | (simpa using k2) | (simp [*] ; done) | (rw [World.cell?_setCell_other _ _ _ _ (by simp)]; assumption)) (first
      | (go_at_call 53; with_reducible refine (HKC.out _ hb2d).mono ?_; rintro r w3 ⟨gl, vs, rfl, hvl, hR3, hb3⟩; have hbW3 := hb2d.trans (hb3.mono hb2d.size); have k3 := (HB0.out.below hbW3 HB0.out.lt).c)
      | (go_at_call 56; with_reducible refine (HFC.out _ _ _ _ hR3 hvl hbW3).mono ?_; rintro r w4 ⟨A4, c4, rfl, hS4, hb4⟩; have hbW4 := hbW3.trans (hb4.mono hbW3.size); have k4 := (HB0.out.below hbW4 HB0.out.lt).c; obtain ⟨d4, e4⟩ := HB1.out.below hbW4 HB1.out.lt))
    all_goals
      have l4 := (HB1.out.below hbW4 HB1.out.lt).lt
      have hs3 := hbW3.size
      have hsW := HB1.out.lt
      have hbE := hid ((HBL.out.trans (hbW4.mono (by omega))).setCell (p := ⟨n + 1, 0, none⟩) (by show n ≤ n + 1; omega) (.slice A4 R.length c4))
      have hSE := hid ((hS4.off (b := n + 1) (j := 0) (u := .slice A4 R.length c4) (by omega)).mono (show n ≤ w3.heap.size by omega))
      have Q1 := hid ((HB1.out.below hbW4 HB1.out.lt).set (.slice A4 R.length c4))
      clear hS4 hb4 hb3 hR3 hbW3 hbW4 k3 k4 d4 e4 hb2 hb2d
      generalize w4.setCell ⟨n + 1, 0, none⟩ (.slice A4 R.length c4) = E at *
      obtain ⟨c9, _⟩ := Q1.out
      go_wp2
      refine bodyPost_ret (v := .tuple #[.agg #[.slice A4 R.length c4], .int .i64 0]) (by simp [results, Tryd.results33, go_sem, *]) rfl ⟨A4, c4, rfl, by rw [HN.out]; exact hSE.out, by rw [HN.out]; exact hbE.out⟩
  · rw [if_neg he]
    obtain ⟨m, hm⟩ : ∃ m, L.length = m := ⟨_, rfl⟩
    rw [hm] at C k0 HW HB0 ⊢
    have he0 : (E == 0) = false := beq_eq_false_iff_ne.2 he
    clear h0 hE hm hA hA1 hok hT hW hbl g0 g1 hl hn B0 B1
    go_enter Tryd.func33, Tryd.ntmps33
    go_upto_region 1 with fail
    rw [HW.out, HN.out]
    go_wp2_with fail
    with_reducible refine C.mono ?_
    rintro e w2 ⟨rfl, hb2⟩
    have P1 := HB1.out.below hb2 HB1.out.lt
    have hsW := HB1.out.lt
    have hbE := hid ((HBL.out.trans (hb2.mono (by omega))).setCell (p := ⟨n + 1, 0, none⟩) (by show n ≤ n + 1; omega) (.slice none 0 0))
    have Q1 := hid (P1.set (.slice none 0 0))
    obtain ⟨c1, f1⟩ := P1
    have l1 := HB1.out.lt
    have s2 := hb2.size
    clear C k0 hb2
    go_wp2
    generalize w2.setCell ⟨n + 1, 0, none⟩ (.slice none 0 0) = E9 at *
    obtain ⟨c9, _⟩ := Q1.out
    refine bodyPost_ret (v := .tuple #[.agg #[.slice none 0 0], .int .i64 E]) (by simp [results, Tryd.results33, go_sem, *]) rfl ⟨none, 0, rfl, SpecO.nil, by rw [HN.out]; exact hbE.out⟩
theorem Norm_any {B : Nat} (L : List Nd) (hok : ∀ n ∈ L, n.ok) (A : Option Addr) (c : Nat) (w : World) (hT : Tabs w) (hA : NdsAt B w A L) (hB : B ≤ w.heap.size) (hl : L.length ≤ 9000000000000) :
    Calls Tryd.prog 34 #[.agg #[.slice A L.length c]] w (SpcP w (cutL L 0) (askC L [0])) := by
  obtain ⟨n, hn⟩ : ∃ n, w.heap.size = n := ⟨_, rfl⟩
  obtain ⟨W, hW⟩ : ∃ W, allocs w [Obj.cells #[.slice A L.length c] 25 (0, 0), Obj.cells #[.slice none 0 0] 25 (0, 0)] = W := ⟨_, rfl⟩
  have g0 := allocs_get [Obj.cells #[.slice A L.length c] 25 (0, 0), Obj.cells #[.slice none 0 0] 25 (0, 0)] w 0 _ rfl
  have g1 := allocs_get [Obj.cells #[.slice A L.length c] 25 (0, 0), Obj.cells #[.slice none 0 0] 25 (0, 0)] w 1 _ rfl
  have hbl := allocs_below [Obj.cells #[.slice A L.length c] 25 (0, 0), Obj.cells #[.slice none 0 0] 25 (0, 0)] w
  rw [hW] at g0 g1 hbl
  rw [hn] at g0 g1 hbl
  have hs1 := hbl.size
  have C := Cut_any L hok A c 0 W (tabs_on hT (by rw [hn]; exact hbl)) (hA.below (hbl.mono (by omega))) (by omega) hl
  have B0 : Box1 W n _ := Box1.of_heap g0
  have B1 : Box1 W (n + 1) _ := Box1.of_heap g1
  simp only [allocs] at hW
  have HW := hid hW
  have HBL := hid hbl
  have HB1 := hid B1
  have HN := hid hn
  have k0 := B0.c
  unfold SpcP at C
  obtain ⟨m, hm⟩ : ∃ m, L.length = m := ⟨_, rfl⟩
  rw [hm] at C HW k0 ⊢
  generalize cutL L 0 = R at *
  generalize askC L [0] = E at *
  clear hm hA hok hT hW hbl g0 g1 hl hn B0 B1
  go_enter Tryd.func34, Tryd.ntmps34
  go_upto_region 1 with fail
  rw [HW.out, HN.out]
  go_wp2_with fail
  with_reducible refine C.mono ?_
  rintro e w2 ⟨A4, c4, rfl, hS4, hb2⟩
  have P1 := HB1.out.below hb2 HB1.out.lt
  have hsW := HB1.out.lt
  have hbE := hid ((HBL.out.trans (hb2.mono (by omega))).setCell (p := ⟨n + 1, 0, none⟩) (by show n ≤ n + 1; omega) (.slice A4 R.length c4))
  have hSE := hid ((hS4.off (b := n + 1) (j := 0) (u := .slice A4 R.length c4) (by omega)).mono (show n ≤ W.heap.size by omega))
  have Q1 := hid (P1.set (.slice A4 R.length c4))
  have l1 := P1.lt
  obtain ⟨c1, f1⟩ := P1
  have s2 := hb2.size
  clear C k0 hb2 hS4
  go_wp2
  generalize w2.setCell ⟨n + 1, 0, none⟩ (.slice A4 R.length c4) = E9 at *
  obtain ⟨c9, _⟩ := Q1.out
  refine bodyPost_ret (v := .tuple #[.agg #[.slice A4 R.length c4], .int .i64 E]) (by simp [results, Tryd.results34, go_sem, *]) rfl ⟨A4, c4, rfl, by rw [HN.out]; exact hSE.out, by rw [HN.out]; exact hbE.out⟩
end Go.Proofs.YtnkojoajcdhngaaDoor
