/- Layer 8: Walk; Parent; Path. -/
import Derived.Test.YtnkojoajcdhngaaDoorTrAd
import Derived.Test.YtnkojoajcdhngaaDoorTrPp
namespace Go.Proofs.YtnkojoajcdhngaaDoor
set_option linter.unusedVariables false
set_option linter.unusedSimpArgs false
set_option maxRecDepth 100000
open Go.RowKit Go.Shelf Go.Lib
attribute [local go_sem] Oper.semAt_some
set_option maxRecDepth 100000
set_option maxHeartbeats 16000000

/-- The walk. -/
def walkL (up : Bool) (L : List Nd) : List (Int × Int) := if chkB L then subF (kidF L L.length) up 64 0 1 else []
def WalkP (w : World) (xs : List (Int × Int)) (e : Ending) (w' : World) : Prop := Below w.heap.size w w' ∧ ∃ fv gf lb R, e = .returned fv ∧ ItAt encP w' w.heap.size fv xs gf lb R
theorem Walk_any {B : Nat} (L : List Nd) (hok : ∀ n ∈ L, n.ok) (A : Option Addr) (c : Nat) (w : World) (hT : Tabs w) (hA : NdsAt B w A L) (hB : B ≤ w.heap.size) (hl : L.length ≤ 9000000000000) :
    Calls Tryd.prog 42 #[.agg #[.slice A L.length c]] w (WalkP w (walkL false L)) := by
  obtain ⟨W, hW⟩ : ∃ W, w.alloc (.cells #[.slice A L.length c] 25) = W := ⟨_, rfl⟩
  have hBW : Below w.heap.size w W := by
    rw [← hW]
    exact (Below.refl _ _).alloc (Nat.le_refl _) _
  have hc0 : W.heap[w.heap.size]? = some (.cells #[.slice A L.length c] 25 (0, 0)) := by
    rw [← hW]
    exact World.alloc_heap_new _ _
  have C := TCheck_any L hok A c W (tabs_on hT hBW) (hA.below (hBW.mono hB)) (by have := hBW.size; omega)
  have HW := hid hW
  have HBW := hid hBW
  have HC0 := hid hc0
  have HA := hid hA
  have k0 : W.cell? ⟨w.heap.size, 0, none⟩ = some (.slice A L.length c) := by rw [blk_cell hc0]; rfl
  have fin : ∀ fv gf lb R w' w1, Below W.heap.size W w1 → Below w1.heap.size w1 w' → ItAt encP w' w.heap.size fv (walkL false L) gf lb R → WalkP w (walkL false L) (.returned fv) w' := fun fv gf lb R w' w1 h1 h2 h3 =>
    ⟨hBW.trans ((h1.mono hBW.size).trans (h2.mono (by have := h1.size; have := hBW.size; omega))), fv, gf, lb, R, rfl, h3⟩
  have FIN := hid fin
  unfold chkC at C
  obtain ⟨n, hn⟩ : ∃ n, L.length = n := ⟨_, rfl⟩
  have HN := hid hn
  cases hc : chkB L with
  | false =>
    rw [hc] at C
    have HWL := hid (show walkL false L = [] by unfold walkL; rw [if_neg (by rw [hc]; decide)])
    rw [hn] at C k0 HW ⊢
    clear hn hA hok hW hBW hc0 fin hc
    go_enter Tryd.func42, Tryd.ntmps42
    go_upto_region 1 with fail
    rw [HW.out]
    go_wp2_with fail
    with_reducible refine C.mono ?_
    rintro e w2 ⟨rfl, hb2⟩
    have HF := hid (FIN.out _ _ _ _ w2 w2 hb2 (Below.refl _ _) (by rw [HWL.out]; exact none_it w2 w.heap.size))
    clear C k0 hb2
    go_wp2
    refine bodyPost_ret (v := .func (.func 81) #[] #[]) (by simp [results, Tryd.results42, go_sem, *]) rfl HF.out
  | true =>
    rw [hc] at C
    obtain ⟨⟨U, D⟩, hUD⟩ : ∃ x, parE L = some x := Option.isSome_iff_exists.1 hc
    have hTO := parE_ok hUD
    have wl : walkL false L = subF (kidF L L.length) false 64 0 1 := by unfold walkL; rw [if_pos (by rw [hc])]
    have kl := kidF_len hok L.length
    have dp : Dep (kidF L L.length) L.length 64 0 := hTO.depth (Int.le_refl 0) (by have := hTO.n1; omega)
    have hA2 := hA.below (hBW.mono hB)
    have HA2 := hid hA2
    have KC := fun (w2 : World) (hb : Below W.heap.size W w2) => kids_any L hok A c w2 (hA2.below (hb.mono (by have := hBW.size; omega))) (by have := hb.size; have := hBW.size; omega) (by have := hTO.n2; omega)
    have HK := hid KC
    have hn2 := hTO.n2
    have hn1 := hTO.n1
    rw [hn] at C k0 HW HK wl kl dp ⊢
    have HWL := hid wl
    have HKL := hid kl
    have HDP := hid dp
    clear hn hA hok hW hBW hc0 fin hc hTO hUD KC hA2 wl kl dp
    go_enter Tryd.func42, Tryd.ntmps42
    go_upto_region 1 with fail
    rw [HW.out]
    go_wp2_with fail
    with_reducible refine C.mono ?_
    rintro e w2 ⟨rfl, hb2⟩
    have KC2 := HK.out w2 hb2
    have k2 : w2.cell? ⟨w.heap.size, 0, none⟩ = some (.slice A n c) := by rw [hb2.cell (p := ⟨w.heap.size, 0, none⟩) (lt_of_block HC0.out)]; exact k0
    clear C k0 HK
    go_wp2_with fail
    with_reducible refine KC2.mono ?_
    rintro e w3 ⟨gl, vs, rfl, hvl, hR, hb3⟩
    have hge := hR.ge
    have CB := below_any false 0 1 n w3 hR
    rw [hvl, HN.out] at CB
    rw [HN.out]
    have HR := hid hR
    clear KC2 k2 hR
    go_wp2_with fail
    with_reducible refine CB.mono ?_
    rintro e w4 ⟨hb4, rfl, hS⟩
    have hs2 := hb2.size
    have hs3 := hb3.size
    have hs4 := hb4.size
    have hs1 := HBW.out.size
    have hit := below_it (B := w.heap.size) 64 w4 hS (by omega) HKL.out (by rw [hvl, HN.out]; exact HDP.out) (by decide) (by decide) (by omega) (by omega) (by omega) (by omega) (by omega)
    have HF := hid (FIN.out _ _ _ _ w4 w2 hb2 (hb3.trans (hb4.mono hs3)) (by rw [HWL.out]; exact hit))
    clear hit hS CB hb2 hb3 hb4
    go_wp2
    refine bodyPost_ret (v := .func (.func 96) #[] #[.pointer (some ⟨w3.heap.size + 3, 0, none⟩), .pointer (some ⟨w3.heap.size, 0, none⟩), .pointer (some ⟨w3.heap.size + 1, 0, none⟩), .pointer (some ⟨w3.heap.size + 2, 0, none⟩)]) (by simp [results, Tryd.results42, go_sem, *]) rfl HF.out
end Go.Proofs.YtnkojoajcdhngaaDoor
