/- Layer 11: Rects, the program's: its closure. -/
import Derived.Test.YtjippgflempdmaaMgGrE
import Derived.Test.YtjippgflempdmaaMgGeo
namespace Go.Proofs.Ytjippgflempdmaa
set_option linter.unusedVariables false
set_option linter.unusedSimpArgs false
set_option maxRecDepth 100000
open Go.RowKit
attribute [local go_sem] max_fold min_fold

/-- Rectangles while they are written. -/
structure RcsSt (w w1 : World) (g qe N : Nat) (X : List Geo.Rc) (err : Int) (wr : World) : Prop where
  below : Below w.heap.size w wr
  size : w1.heap.size ≤ wr.heap.size
  same : ∀ k, k < w1.heap.size → k ≠ g → k ≠ qe → wr.heap[k]? = w1.heap[k]?
  own : wr.ownsRow w.heap.size 42 4 (.slice (some ⟨g, 0, none⟩) N N) N (Geo.rcells X)
  ebox : wr.heap[qe]? = some (.cells #[.int .i64 err] 25 (0, 0))
  gb : w.heap.size ≤ g ∧ w.heap.size ≤ qe ∧ g ≠ qe ∧ g < w1.heap.size ∧ qe < w1.heap.size
theorem RcsSt.on {w w1 wr w' : World} {g qe N : Nat} {X : List Geo.Rc} {err : Int} (h : RcsSt w w1 g qe N X err wr) (hb : Below wr.heap.size wr w') : RcsSt w w1 g qe N X err w' :=
  ⟨h.below.trans (hb.mono h.below.size), Nat.le_trans h.size hb.size, fun k h1 h2 h3 => (hb.block k (Nat.lt_of_lt_of_le h1 h.size)).trans (h.same k h1 h2 h3), own_below' h.own hb, (hb.block _ (blk_lt2 h.ebox)).trans h.ebox, h.gb⟩
theorem rcells_set (l : List Geo.Rc) (k : Nat) (u : Geo.Rc) : ((((Geo.rcells l).set (k * 4) (.int .i64 u.x)).set (k * 4 + 1) (.int .i64 u.y)).set (k * 4 + 2) (.int .i64 u.w)).set (k * 4 + 3) (.int .i64 u.h) = Geo.rcells (l.set k u) := by
  induction l generalizing k with
  | nil => rfl
  | cons r l ih =>
    cases k with
    | zero => rfl
    | succ k =>
      have e : (k + 1) * 4 = k * 4 + 4 := by omega
      rw [e]
      simp only [Geo.rcells, List.set_cons_succ]
      rw [ih]
theorem RcsSt.put {w w1 wr : World} {g qe N : Nat} {X : List Geo.Rc} {err : Int} (h : RcsSt w w1 g qe N X err wr) (k : Nat) (u : Geo.Rc) : RcsSt w w1 g qe N (X.set k u) err ((((wr.setCell ⟨g, k * 4, none⟩ (.int .i64 u.x)).setCell ⟨g, k * 4 + 1, none⟩ (.int .i64 u.y)).setCell ⟨g, k * 4 + 2, none⟩ (.int .i64 u.w)).setCell ⟨g, k * 4 + 3, none⟩ (.int .i64 u.h)) := by
  obtain ⟨h1, h2, h3, h4, h5⟩ := h.gb
  refine ⟨(((h.below.setCell (p := ⟨g, k * 4, none⟩) h1 _).setCell (p := ⟨g, k * 4 + 1, none⟩) h1 _).setCell (p := ⟨g, k * 4 + 2, none⟩) h1 _).setCell (p := ⟨g, k * 4 + 3, none⟩) h1 _, by simpa using h.size, fun j a b c => ?_, ?_, ?_, h.gb⟩
  · rw [heap_setCell_other _ _ _ _ (by simpa using b), heap_setCell_other _ _ _ _ (by simpa using b), heap_setCell_other _ _ _ _ (by simpa using b), heap_setCell_other _ _ _ _ (by simpa using b)]
    exact h.same j a b c
  · rw [← rcells_set]
    exact own_store (own_store (own_store (own_store h.own _ _) _ _) _ _) _ _
  · have b : qe ≠ g := Ne.symm h3
    rw [heap_setCell_other _ _ _ _ (by simpa using b), heap_setCell_other _ _ _ _ (by simpa using b), heap_setCell_other _ _ _ _ (by simpa using b), heap_setCell_other _ _ _ _ (by simpa using b)]
    exact h.ebox
/-- A store into a block that is new since. -/
theorem RcsSt.new {w w1 wr : World} {g qe N b : Nat} {X : List Geo.Rc} {err : Int} (h : RcsSt w w1 g qe N X err wr) (hb : w1.heap.size ≤ b) (o : Nat) (u : Value) : RcsSt w w1 g qe N X err (wr.setCell ⟨b, o, none⟩ u) := by
  obtain ⟨h1, h2, h3, h4, h5⟩ := h.gb
  refine ⟨h.below.setCell (p := ⟨b, o, none⟩) (by show _ ≤ b; omega) _, by simpa using h.size, fun j a c d => ?_, ?_, ?_, h.gb⟩
  · rw [heap_setCell_other _ _ _ _ (by show j ≠ b; omega)]
    exact h.same j a c d
  · exact own_off h.own (by simp [Value.ownBlock]; omega)
  · rw [heap_setCell_other _ _ _ _ (by show qe ≠ b; omega)]
    exact h.ebox
theorem RcsSt.err {w w1 wr : World} {g qe N : Nat} {X : List Geo.Rc} {err : Int} (h : RcsSt w w1 g qe N X err wr) (e : Int) : RcsSt w w1 g qe N X e (wr.setCell ⟨qe, 0, none⟩ (.int .i64 e)) := by
  obtain ⟨h1, h2, h3, h4, h5⟩ := h.gb
  refine ⟨h.below.setCell (p := ⟨qe, 0, none⟩) h2 _, by simpa using h.size, fun j a b c => ?_, ?_, ?_, h.gb⟩
  · rw [heap_setCell_other _ _ _ _ (by simpa using c)]
    exact h.same j a b c
  · exact own_off h.own (by simp [Value.ownBlock]; exact h3)
  · have := store_in (i := 0) (u := .int .i64 e) h.ebox
    simpa using this
/-- Memory that is only read, in blocks other than the two that are written. -/
def AtS (w1 : World) (g qe : Nat) (A : Option Addr) (xs : List Value) : Prop := 0 < xs.length → ∃ k o, A = some ⟨k, o, none⟩ ∧ (k < w1.heap.size ∧ k ≠ g ∧ k ≠ qe) ∧ ∀ j v, xs[j]? = some v → w1.cell? ⟨k, o + j, none⟩ = some v
theorem cell_same {w w' : World} {k : Nat} (h : w'.heap[k]? = w.heap[k]?) (o : Nat) : w'.cell? ⟨k, o, none⟩ = w.cell? ⟨k, o, none⟩ := by simp [World.cell?, h]
theorem AtS.at {w w1 wr : World} {g qe N : Nat} {X : List Geo.Rc} {err : Int} {A : Option Addr} {xs : List Value} (h : AtS w1 g qe A xs) (H : RcsSt w w1 g qe N X err wr) : At wr.heap.size wr A xs := by
  intro hx
  obtain ⟨k, o, hA, hk, hc⟩ := h hx
  exact ⟨k, o, hA, Nat.lt_of_lt_of_le hk.1 H.size, fun j v hj => (cell_same (H.same k hk.1 hk.2.1 hk.2.2) _).trans (hc j v hj)⟩
theorem AtS.of {w1 : World} {g qe B : Nat} {A : Option Addr} {xs : List Value} (h : At B w1 A xs) (h1 : B ≤ g) (h2 : B ≤ qe) (h3 : B ≤ w1.heap.size) : AtS w1 g qe A xs := by
  intro hx
  obtain ⟨k, o, hA, hk, hc⟩ := h hx
  exact ⟨k, o, hA, ⟨by omega, by omega, by omega⟩, hc⟩
theorem AtS.own {w1 : World} {g qe base n c : Nat} {e : TypeId} {size : Nat} {A : Option Addr} {xs : List Value} (h : w1.ownsRow base e size (.slice A n c) n xs) (h1 : (Value.slice A n c).ownBlock ≠ some g) (h2 : qe < base) : AtS w1 g qe A xs := by
  intro hx
  obtain ⟨k, o, hA, hk, hc⟩ := At.of_own h hx
  subst hA
  have := (h.lt k rfl).1
  exact ⟨k, o, rfl, ⟨hk, fun e => h1 (by rw [← e]; rfl), by omega⟩, hc⟩
/-- What the closure reads. -/
structure RIn (w1 : World) (g qe qr qx qy qw qh qo N U R : Nat) (r : Geo.Rc) (Ax Ay Aw Ah : Option Addr) (cx cy cw ch : Nat) (xs ys ws hs : List Int) : Prop where
  br : w1.heap[qr]? = some (.cells #[.int .i64 r.x, .int .i64 r.y, .int .i64 r.w, .int .i64 r.h] 42 (0, 0))
  bx : w1.heap[qx]? = some (.cells #[.slice Ax U cx] 23 (0, 0))
  b_y : w1.heap[qy]? = some (.cells #[.slice Ay R cy] 23 (0, 0))
  bw : w1.heap[qw]? = some (.cells #[.slice Aw U cw] 23 (0, 0))
  bh : w1.heap[qh]? = some (.cells #[.slice Ah R ch] 23 (0, 0))
  bo : w1.heap[qo]? = some (.cells #[.slice (some ⟨g, 0, none⟩) N N] 36 (0, 0))
  ng : qr ≠ g ∧ qx ≠ g ∧ qy ≠ g ∧ qw ≠ g ∧ qh ≠ g ∧ qo ≠ g
  ne : qr ≠ qe ∧ qx ≠ qe ∧ qy ≠ qe ∧ qw ≠ qe ∧ qh ≠ qe ∧ qo ≠ qe
  ax : AtS w1 g qe Ax (ints xs)
  ay : AtS w1 g qe Ay (ints ys)
  aw : AtS w1 g qe Aw (ints ws)
  ah : AtS w1 g qe Ah (ints hs)
  lx : xs.length = U
  ly : ys.length = R
  lw : ws.length = U
  lh : hs.length = R
  vx : ∀ v ∈ xs, 0 ≤ v ∧ v ≤ 1000000000000000
  vy : ∀ v ∈ ys, 0 ≤ v ∧ v ≤ 1000000000000000
  vw : ∀ v ∈ ws, 0 ≤ v ∧ v ≤ 1000000000
  vh : ∀ v ∈ hs, 0 ≤ v ∧ v ≤ 1000000000
  may : Geo.may r = true
  nb : N ≤ 1024 ∧ U ≤ 64 ∧ R ≤ 1024
theorem getD_in9 {l : List Int} {k : Nat} (h : k < l.length) : l.getD k 0 ∈ l := by
  rw [show l.getD k 0 = l[k] by simp [List.getD, h]]
  exact List.getElem_mem h
theorem At.num {B : Nat} {w : World} {A : Option Addr} {l : List Int} (h : At B w A (ints l)) {k : Nat} (hk : k < l.length) : ∃ g o, A = some ⟨g, o, none⟩ ∧ g < B ∧ w.cell? ⟨g, o + k, none⟩ = some (.int .i64 (l.getD k 0)) := by
  obtain ⟨g, o, h1, h2, h3⟩ := h.int hk
  exact ⟨g, o, h1, h2, by rw [show l.getD k 0 = l[k] by simp [List.getD, hk]]; exact h3⟩

theorem At.num2 {B : Nat} {w : World} {g o : Nat} {l : List Int} (h : At B w (some ⟨g, o, none⟩) (ints l)) {k : Nat} (hk : k < l.length) : g < B ∧ w.cell? ⟨g, o + k, none⟩ = some (.int .i64 (l.getD k 0)) := by
  obtain ⟨g', o', h1, h2, h3⟩ := h.num hk
  injection h1 with h1
  injection h1 with e1 e2
  subst e1 e2
  exact ⟨h2, h3⟩
/-- The cells that the closure reads for one thing. -/
structure RF (g qr qx qy qw qh qo N U R gx ox gw ow gy oy gh oh cx cy cw ch x l y : Nat) (rx ry x0 x1 w0 y0 h0 : Int) (wr : World) : Prop where
  k10 : wr.cell? ⟨qr, 0, none⟩ = some (.int .i64 rx)
  k11 : wr.cell? ⟨qr, 1, none⟩ = some (.int .i64 ry)
  k2 : wr.cell? ⟨qx, 0, none⟩ = some (.slice (some ⟨gx, ox, none⟩) U cx)
  k3 : wr.cell? ⟨qy, 0, none⟩ = some (.slice (some ⟨gy, oy, none⟩) R cy)
  k4 : wr.cell? ⟨qw, 0, none⟩ = some (.slice (some ⟨gw, ow, none⟩) U cw)
  k5 : wr.cell? ⟨qh, 0, none⟩ = some (.slice (some ⟨gh, oh, none⟩) R ch)
  k6 : wr.cell? ⟨qo, 0, none⟩ = some (.slice (some ⟨g, 0, none⟩) N N)
  c1 : wr.cell? ⟨gx, ox + x, none⟩ = some (.int .i64 x0)
  c2 : wr.cell? ⟨gx, ox + l, none⟩ = some (.int .i64 x1)
  c3 : wr.cell? ⟨gw, ow + l, none⟩ = some (.int .i64 w0)
  c4 : wr.cell? ⟨gy, oy + y, none⟩ = some (.int .i64 y0)
  c5 : wr.cell? ⟨gh, oh + y, none⟩ = some (.int .i64 h0)
  l1 : qr < wr.heap.size
  l2 : qx < wr.heap.size
  l3 : qy < wr.heap.size
  l4 : qw < wr.heap.size
  l5 : qh < wr.heap.size
  l6 : qo < wr.heap.size
  l7 : gx < wr.heap.size
  l8 : gw < wr.heap.size
  l9 : gy < wr.heap.size
  l0 : gh < wr.heap.size
theorem RIn.facts {w w1 wr : World} {g qe qr qx qy qw qh qo N U R gx ox gw ow gy oy gh oh : Nat} {r : Geo.Rc} {cx cy cw ch : Nat} {xs ys ws hs : List Int} {X : List Geo.Rc} {err : Int} (hin : RIn w1 g qe qr qx qy qw qh qo N U R r (some ⟨gx, ox, none⟩) (some ⟨gy, oy, none⟩) (some ⟨gw, ow, none⟩) (some ⟨gh, oh, none⟩) cx cy cw ch xs ys ws hs) (h : RcsSt w w1 g qe N X err wr) {x l y : Nat} (hl : l < U) (hx : x ≤ l) (hy : y < R) :
    RF g qr qx qy qw qh qo N U R gx ox gw ow gy oy gh oh cx cy cw ch x l y r.x r.y (xs.getD x 0) (xs.getD l 0) (ws.getD l 0) (ys.getD y 0) (hs.getD y 0) wr := by
  obtain ⟨n1, n2, n3, n4, n5, n6⟩ := hin.ng
  obtain ⟨m1, m2, m3, m4, m5, m6⟩ := hin.ne
  have B1 := (h.same qr (blk_lt2 hin.br) n1 m1).trans hin.br
  have B2 := (h.same qx (blk_lt2 hin.bx) n2 m2).trans hin.bx
  have B3 := (h.same qy (blk_lt2 hin.b_y) n3 m3).trans hin.b_y
  have B4 := (h.same qw (blk_lt2 hin.bw) n4 m4).trans hin.bw
  have B5 := (h.same qh (blk_lt2 hin.bh) n5 m5).trans hin.bh
  have B6 := (h.same qo (blk_lt2 hin.bo) n6 m6).trans hin.bo
  have d1 := (hin.ax.at h).num2 (k := x) (by rw [hin.lx]; omega)
  have d2 := (hin.ax.at h).num2 (k := l) (by rw [hin.lx]; omega)
  have d3 := (hin.aw.at h).num2 (k := l) (by rw [hin.lw]; omega)
  have d4 := (hin.ay.at h).num2 (k := y) (by rw [hin.ly]; omega)
  have d5 := (hin.ah.at h).num2 (k := y) (by rw [hin.lh]; omega)
  exact ⟨by have := blk_cell B1 0; simpa using this, by have := blk_cell B1 1; simpa using this, by have := blk_cell B2 0; simpa using this, by have := blk_cell B3 0; simpa using this, by have := blk_cell B4 0; simpa using this, by have := blk_cell B5 0; simpa using this, by have := blk_cell B6 0; simpa using this,
    d1.2, d2.2, d3.2, d4.2, d5.2, blk_lt2 B1, blk_lt2 B2, blk_lt2 B3, blk_lt2 B4, blk_lt2 B5, blk_lt2 B6, d1.1, d3.1, d4.1, d5.1⟩

set_option maxRecDepth 100000 in
set_option maxHeartbeats 8000000 in
theorem rput_any {w w1 wr : World} {g qe qr qx qy qw qh qo N U R : Nat} {r : Geo.Rc} {Ax Ay Aw Ah : Option Addr} {cx cy cw ch : Nat} {xs ys ws hs : List Int} {X : List Geo.Rc} {err : Int} (hin : RIn w1 g qe qr qx qy qw qh qo N U R r Ax Ay Aw Ah cx cy cw ch xs ys ws hs) (h : RcsSt w w1 g qe N X err wr) (hX : X.length = N) {i x l y : Nat} (hi : i < N) (hl : l < U) (hx : x ≤ l) (hy : y < R) :
    Calls Try.prog 44 #[.agg #[.int .i64 x, .int .i64 ((l : Int) + 1 - x), .int .i64 i], .int .i64 y, .pointer (some ⟨qr, 0, none⟩), .pointer (some ⟨qx, 0, none⟩), .pointer (some ⟨qy, 0, none⟩), .pointer (some ⟨qw, 0, none⟩), .pointer (some ⟨qh, 0, none⟩), .pointer (some ⟨qo, 0, none⟩), .pointer (some ⟨qe, 0, none⟩)] wr fun e w' =>
      e = .returned (.tuple #[]) ∧ RcsSt w w1 g qe N (X.set i ⟨r.x + xs.getD x 0, r.y + ys.getD y 0, xs.getD l 0 + ws.getD l 0 - xs.getD x 0, hs.getD y 0⟩) (if Geo.may ⟨r.x + xs.getD x 0, r.y + ys.getD y 0, xs.getD l 0 + ws.getD l 0 - xs.getD x 0, hs.getD y 0⟩ then err else 9) w' := by
  obtain ⟨rx, ry, rw_, rh⟩ := r
  have hmay := (Geo.may_iff _ _ _ _).1 hin.may
  obtain ⟨z1, z2, z3⟩ := hin.nb
  have v1 := hin.vx _ (getD_in9 (show x < xs.length by rw [hin.lx]; omega))
  have v2 := hin.vx _ (getD_in9 (show l < xs.length by rw [hin.lx]; omega))
  have v3 := hin.vw _ (getD_in9 (show l < ws.length by rw [hin.lw]; omega))
  have v4 := hin.vy _ (getD_in9 (show y < ys.length by rw [hin.ly]; omega))
  have v5 := hin.vh _ (getD_in9 (show y < hs.length by rw [hin.lh]; omega))
  obtain ⟨gx, ox, ex, _, _⟩ := (hin.ax.at h).num (k := x) (by rw [hin.lx]; omega)
  obtain ⟨gw, ow, ew, _, _⟩ := (hin.aw.at h).num (k := l) (by rw [hin.lw]; omega)
  obtain ⟨gy, oy, ey, _, _⟩ := (hin.ay.at h).num (k := y) (by rw [hin.ly]; omega)
  obtain ⟨gh, oh, eh, _, _⟩ := (hin.ah.at h).num (k := y) (by rw [hin.lh]; omega)
  subst ex ew ey eh
  have n6 := hin.ng.2.2.2.2.2
  have n6' : g ≠ qo := fun e => n6 e.symm
  have HF : Hid (∀ wr X err, RcsSt w w1 g qe N X err wr → RF g qr qx qy qw qh qo N U R gx ox gw ow gy oy gh oh cx cy cw ch x l y rx ry (xs.getD x 0) (xs.getD l 0) (ws.getD l 0) (ys.getD y 0) (hs.getD y 0) wr) := Go.Lib.hid fun wr X err h => hin.facts h hl hx hy
  have H := Go.Lib.hid h
  have HX := Go.Lib.hid hX
  clear hin h hX
  simp only
  generalize xs.getD x 0 = x0 at *
  generalize xs.getD l 0 = x1 at *
  generalize ws.getD l 0 = w0 at *
  generalize ys.getD y 0 = y0 at *
  generalize hs.getD y 0 = h0 at *
  have hxl : (x : Int) + ((l : Int) + 1 - x) - 1 = l := by omega
  have hb1 : (x : Int) ≤ 64 := by omega
  have hlU : (l : Int) < (U : Int) := by omega
  have hxU : (x : Int) < (U : Int) := by omega
  have hyR : (y : Int) < (R : Int) := by omega
  have hiN : (i : Int) < (N : Int) := by omega
  go_enter Try.func44, Try.ntmps44
  go_wp2
  (try rw [hxl])
  have hb0 : Below wr.heap.size wr (wr.alloc (.cells #[.int .i64 x, .int .i64 ((l : Int) + 1 - x), .int .i64 i] 63)) := (Below.refl _ _).alloc (Nat.le_refl _) _
  have ht0 := alloc_at wr (.cells #[.int .i64 x, .int .i64 ((l : Int) + 1 - x), .int .i64 i] 63)
  have H0 := Go.Lib.hid (H.out.on hb0)
  generalize World.alloc wr _ = wq at *
  obtain ⟨qt, hqt⟩ : ∃ q, wr.heap.size = q := ⟨_, rfl⟩
  have hqg : qt ≠ g := by have := H.out.gb; have := H.out.size; omega
  have hgq : g ≠ qt := fun e => hqg e.symm
  rw [hqt] at ht0 ⊢
  obtain ⟨t0, t1, t2, _, _, _, lt⟩ := blk3 ht0
  obtain ⟨k10, k11, k2, k3, k4, k5, k6, c1, c2, c3, c4, c5, l1, l2, l3, l4, l5, l6, l7, l8, l9, l0⟩ := HF.out _ _ _ H0.out
  clear hb0 H hqt
  (apply region_make1 (Good := NewCells wq (fun b => .pointer (some ⟨b, 0, none⟩)) #[.int .i64 0, .int .i64 0] 40) (W := wq) 19 18 mixed rfl rfl (by kernel_rfl) (by decide) NewCells.mono; (focus (intro V hV; have hsV := hV.size; obtain ⟨hcV, hfV⟩ := bcell hV; have zV_0 : qr < V.heap.size := (by omega); have yV_0 : qr < V.heap.size + 1 := (by omega); have zV_1 : qx < V.heap.size := (by omega); have yV_1 : qx < V.heap.size + 1 := (by omega); have zV_2 : qy < V.heap.size := (by omega); have yV_2 : qy < V.heap.size + 1 := (by omega); have zV_3 : qt < V.heap.size := (by omega); have yV_3 : qt < V.heap.size + 1 := (by omega); have zV_4 : gx < V.heap.size := (by omega); have yV_4 : gx < V.heap.size + 1 := (by omega); have zV_5 : gy < V.heap.size := (by omega); have yV_5 : gy < V.heap.size + 1 := (by omega); simp only [List.length_cons, List.length_nil, Nat.reduceAdd, Nat.reduceSub, List.take_succ_cons, List.take_zero, List.drop_succ_cons, List.drop_zero, List.cons_append, List.nil_append, List.append_nil]; (repeat (go_big_quiet_step (fail))); exact wpQuiet_nil rfl)); (focus (exact makes_new fun w => by simp [go_sem])); rintro v w8 ⟨b8, hge8, hlt8, hblk8, rfl⟩ hb8; have hs8 := hb8.size; obtain ⟨hc8, hf8⟩ := bcell hb8; have hk8 := blk_cell hblk8; have hl8 := blk_frozen hblk8; have zw8_0 : qr < w8.heap.size := (by omega); have yw8_0 : qr < w8.heap.size + 1 := (by omega); have zw8_1 : qx < w8.heap.size := (by omega); have yw8_1 : qx < w8.heap.size + 1 := (by omega); have zw8_2 : qy < w8.heap.size := (by omega); have yw8_2 : qy < w8.heap.size + 1 := (by omega); have zw8_3 : qt < w8.heap.size := (by omega); have yw8_3 : qt < w8.heap.size + 1 := (by omega); have zw8_4 : gx < w8.heap.size := (by omega); have yw8_4 : gx < w8.heap.size + 1 := (by omega); have zw8_5 : gy < w8.heap.size := (by omega); have yw8_5 : gy < w8.heap.size + 1 := (by omega); simp only [List.length_cons, List.length_nil, Nat.reduceAdd, Nat.reduceSub, List.take_succ_cons, List.take_zero, List.drop_succ_cons, List.drop_zero, List.cons_append, List.nil_append, List.append_nil])
  go_wp2
  have hge : w1.heap.size ≤ b8 := Nat.le_trans H0.out.size hge8
  have H8 := Go.Lib.hid (((H0.out.on hb8).new hge 0 (.int .i64 (rx + x0))).new hge 1 (.int .i64 (ry + y0)))
  have hp9 := store2 (u0 := .int .i64 (rx + x0)) (u1 := .int .i64 (ry + y0)) hblk8
  have hn8 : qt ≠ b8 := by omega
  have ht9 : ((w8.setCell ⟨b8, 0, none⟩ (.int .i64 (rx + x0))).setCell ⟨b8, 1, none⟩ (.int .i64 (ry + y0))).heap[qt]? = some (.cells #[.int .i64 x, .int .i64 ((l : Int) + 1 - x), .int .i64 i] 63 (0, 0)) := by
    rw [heap_setCell_other _ _ _ _ (by simpa using hn8), heap_setCell_other _ _ _ _ (by simpa using hn8), hb8.block _ lt]
    exact ht0
  clear k10 k11 k2 k3 k4 k5 k6 c1 c2 c3 c4 c5 l1 l2 l3 l4 l5 l6 l7 l8 l9 l0 t0 t1 t2 lt ht0 hblk8 hk8 hl8 hb8 hc8 hf8 hs8 H0
  generalize World.setCell (World.setCell w8 _ _) _ _ = w9 at *
  obtain ⟨k10, k11, k2, k3, k4, k5, k6, c1, c2, c3, c4, c5, l1, l2, l3, l4, l5, l6, l7, l8, l9, l0⟩ := HF.out _ _ _ H8.out
  obtain ⟨t0, t1, t2, _, _, _, lt⟩ := blk3 ht9
  obtain ⟨p0, p1, _, _, lp⟩ := blk2 hp9
  go_wp2
  refine region_ext_last 1 mixed (by kernel_rfl) ?_
  simp only [List.length_cons, List.length_nil, Nat.reduceAdd, Nat.reduceSub, List.take_succ_cons, List.take_zero, List.drop_succ_cons, List.drop_zero]
  (repeat (go_big_quiet_step (fail)))
  refine wpQuiet_nil ?_
  intro w10 hb10
  have H10 := Go.Lib.hid (H8.out.on hb10)
  have hl10 := hb10.size
  have hX10 : i < X.length := by rw [HX.out]; exact hi
  obtain ⟨e0, e1, e2, e3⟩ := Geo.rcells_at X i hX10
  have hc0 := H10.out.own.cellAt (i * 4) (by omega)
  have hc1 := H10.out.own.cellAt (i * 4 + 1) (by omega)
  have hc2 := H10.out.own.cellAt (i * 4 + 2) (by omega)
  have hc3 := H10.out.own.cellAt (i * 4 + 3) (by omega)
  rw [e0] at hc0
  rw [e1] at hc1
  rw [e2] at hc2
  rw [e3] at hc3
  have hf0 := At.frozen_own H10.out.own (i * 4)
  have hf1 := At.frozen_own H10.out.own (i * 4 + 1)
  have hf2 := At.frozen_own H10.out.own (i * 4 + 2)
  have hf3 := At.frozen_own H10.out.own (i * 4 + 3)
  have lg10 := World.block_lt_of_cell? _ _ hc0
  have ht10 := (hb10.block _ (blk_lt2 ht9)).trans ht9
  have HXI : Hid (∀ u, i < (X.set i u).length) := Go.Lib.hid fun u => by rw [List.length_set]; exact hX10
  clear k10 k11 k2 k3 k4 k5 k6 c1 c2 c3 c4 c5 l1 l2 l3 l4 l5 l6 l7 l8 l9 l0 t0 t1 t2 lt ht9 hp9 p0 p1 lp e0 e1 e2 e3 hb10 H8 hl10
  generalize X[i] = q0 at *
  clear hX10
  obtain ⟨k10, k11, k2, k3, k4, k5, k6, c1, c2, c3, c4, c5, l1, l2, l3, l4, l5, l6, l7, l8, l9, l0⟩ := HF.out _ _ _ H10.out
  obtain ⟨t0, t1, t2, _, _, _, lt⟩ := blk3 ht10
  clear k10 k11 k2 k3 k4 k5 c1 c2 c3 c4 c5 l1 l2 l3 l4 l5 l7 l8 l9 l0
  go_wp2_with fail
  have H11 := Go.Lib.hid (H10.out.put i ⟨rx + x0, ry + y0, x1 + w0 - x0, h0⟩)
  refine (Geo.check_any _ _ _ _ _).mono ?_
  rintro e w12 ⟨rfl, hb12⟩
  have H12 := Go.Lib.hid (H11.out.on hb12)
  clear hc0 hc1 hc2 hc3 hf0 hf1 hf2 hf3 hb12 H11 H10 ht10 k6 t0 t1 t2 lt l6
  have hck : Geo.checkE ⟨rx + x0, ry + y0, x1 + w0 - x0, h0⟩ = if Geo.may ⟨rx + x0, ry + y0, x1 + w0 - x0, h0⟩ then 0 else 5 := rfl
  cases hm : Geo.may ⟨rx + x0, ry + y0, x1 + w0 - x0, h0⟩
  · rw [hm] at hck
    simp only [Bool.false_eq_true, if_false] at hck
    rw [hck]
    have ke : w12.cell? ⟨qe, 0, none⟩ = some (.int .i64 err) := by have := blk_cell H12.out.ebox 0; simpa using this
    have fe := blk_frozen H12.out.ebox 0
    go_wp2
    all_goals (go_end0; exact ⟨rfl, by simpa [hm] using H12.out.err 9⟩)
  · rw [hm] at hck
    simp only [if_true] at hck
    rw [hck]
    go_wp2
    go_end0
    exact ⟨rfl, by simpa [hm] using H12.out⟩
end Go.Proofs.Ytjippgflempdmaa

/- Layer 11: Rects, the program's: what is asked first; plain. -/
namespace Go.Proofs.Ytjippgflempdmaa
set_option linter.unusedVariables false
set_option linter.unusedSimpArgs false
set_option maxRecDepth 100000
open Go.RowKit
attribute [local go_sem] max_fold min_fold

theorem row_facts {l : List Int} {gap room : Int} (h : okN l) (hl : l.length ≤ 1024) (hg : okG gap = true) (hr : okR room = true) :
    ((rowR (trkL l) gap room).length = l.length ∧ (rowB (trkL l) gap room).length = l.length) ∧ (∀ v ∈ rowR (trkL l) gap room, 0 ≤ v ∧ v ≤ 1000000000) ∧ ∀ v ∈ rowB (trkL l) gap room, 0 ≤ v ∧ v ≤ 1000000000000000 := by
  have he := trk_row h hl hg hr
  have hall := (chk_ok (trk_ok h hl)).2
  have hgb : 0 ≤ gap ∧ gap ≤ 16384 := by simpa [okG, inB] using hg
  have hrb : 0 ≤ room ∧ room ≤ 32768 := by simpa [okR, inB] using hr
  have hrn : 0 ≤ roomN (trkL l).length gap room ∧ roomN (trkL l).length gap room ≤ 32768 := by
    unfold roomN
    have := gap_bd (n := max 0 (((trkL l).length : Int) - 1)) hgb (by rw [trkL_len]; omega)
    omega
  have hs := share_out (L := trkL l) (room := roomN (trkL l).length gap room) (by rw [trkL_len]; exact hl) hall hrn
  have e : rowR (trkL l) gap room = shareP (trkL l) (roomN (trkL l).length gap room) := by unfold rowR; rw [if_pos he]
  have hlen : (rowR (trkL l) gap room).length = l.length := by rw [e, hs.1, trkL_len]
  refine ⟨⟨hlen, by unfold rowB; rw [startsL_len, hlen]⟩, by rw [e]; exact hs.2, fun v hv => ?_⟩
  unfold rowB startsL at hv
  obtain ⟨k, hk, rfl⟩ := List.mem_map.1 hv
  have hk := List.mem_range.1 hk
  have := posL_bd (S := rowR (trkL l) gap room) (by rw [e]; exact hs.2) hgb k
  omega

def rctP (n : Int) (S : List Int) (r : Geo.Rc) (xs ws ys hs : List Int) (i : Nat) : Geo.Rc :=
  ⟨r.x + xs.getD (colP n S i).toNat 0, r.y + ys.getD (rowP n S i) 0, xs.getD (colP n S i + wideP n S i - 1).toNat 0 + ws.getD (colP n S i + wideP n S i - 1).toNat 0 - xs.getD (colP n S i).toNat 0, hs.getD (rowP n S i) 0⟩
def rctL (n : Int) (S : List Int) (r : Geo.Rc) (xs ws ys hs : List Int) (i : Nat) : List Geo.Rc := (List.range i).map (rctP n S r xs ws ys hs)
def rctE (n : Int) (S : List Int) (r : Geo.Rc) (xs ws ys hs : List Int) (i : Nat) : Int := if (rctL n S r xs ws ys hs i).all Geo.may then 0 else 9
def rctX (n : Int) (S : List Int) (r : Geo.Rc) (xs ws ys hs : List Int) (N i : Nat) : List Geo.Rc := rctL n S r xs ws ys hs i ++ List.replicate (N - i) ⟨0, 0, 0, 0⟩
theorem rctL_len (n : Int) (S : List Int) (r : Geo.Rc) (xs ws ys hs : List Int) (i : Nat) : (rctL n S r xs ws ys hs i).length = i := by simp [rctL]
theorem rctL_succ (n : Int) (S : List Int) (r : Geo.Rc) (xs ws ys hs : List Int) (i : Nat) : rctL n S r xs ws ys hs (i + 1) = rctL n S r xs ws ys hs i ++ [rctP n S r xs ws ys hs i] := by simp [rctL, List.range_succ]
theorem rctX_len {n : Int} {S : List Int} {r : Geo.Rc} {xs ws ys hs : List Int} {N i : Nat} (h : i ≤ N) : (rctX n S r xs ws ys hs N i).length = N := by simp [rctX, rctL_len]; omega
theorem rctX_set {n : Int} {S : List Int} {r : Geo.Rc} {xs ws ys hs : List Int} {N i : Nat} (h : i < N) : (rctX n S r xs ws ys hs N i).set i (rctP n S r xs ws ys hs i) = rctX n S r xs ws ys hs N (i + 1) := by
  unfold rctX
  rw [List.set_append_right _ _ (by rw [rctL_len]; exact Nat.le_refl _), rctL_len, Nat.sub_self, rctL_succ]
  rw [show N - i = (N - (i + 1)) + 1 by omega, List.replicate_succ, List.set_cons_zero]
  simp
theorem rctX_zero (n : Int) (S : List Int) (r : Geo.Rc) (xs ws ys hs : List Int) (N : Nat) : rctX n S r xs ws ys hs N 0 = List.replicate N ⟨0, 0, 0, 0⟩ := by simp [rctX, rctL]
theorem rctX_end (n : Int) (S : List Int) (r : Geo.Rc) (xs ws ys hs : List Int) (N : Nat) : rctX n S r xs ws ys hs N N = rctL n S r xs ws ys hs N := by simp [rctX]
theorem rctE_succ (n : Int) (S : List Int) (r : Geo.Rc) (xs ws ys hs : List Int) (i : Nat) : rctE n S r xs ws ys hs (i + 1) = if Geo.may (rctP n S r xs ws ys hs i) then rctE n S r xs ws ys hs i else 9 := by
  unfold rctE
  rw [rctL_succ, List.all_append]
  cases hm : Geo.may (rctP n S r xs ws ys hs i) <;> simp [hm]

def xsL (m : Nat) (S : List Int) (L : List T2) (gap : Int) (r : Geo.Rc) : List Int := rowB (trkL (usedL m S (wsL L) gap S.length)) gap r.w
def wdL (m : Nat) (S : List Int) (L : List T2) (gap : Int) (r : Geo.Rc) : List Int := rowR (trkL (usedL m S (wsL L) gap S.length)) gap r.w
def ysL (m : Nat) (S : List Int) (L : List T2) (gap : Int) (r : Geo.Rc) : List Int := rowB (trkL (hgtL m S (hsL L) S.length)) gap r.h
def htL (m : Nat) (S : List Int) (L : List T2) (gap : Int) (r : Geo.Rc) : List Int := rowR (trkL (hgtL m S (hsL L) S.length)) gap r.h
def allL (m : Nat) (S : List Int) (L : List T2) (gap : Int) (r : Geo.Rc) (i : Nat) : List Geo.Rc := rctL m S r (xsL m S L gap r) (wdL m S L gap r) (ysL m S L gap r) (htL m S L gap r) i
def askR (S : List Int) (L : List T2) (col gap : Int) (r : Geo.Rc) : Int := askE [wrongE S L col gap, Geo.checkE r]
def rcsE (S : List Int) (L : List T2) (col gap : Int) (r : Geo.Rc) : Int := if askR S L col gap r = 0 then (if S.length = L.length then (if (allL (max col 1).toNat S L gap r S.length).all Geo.may then 0 else 9) else 110) else askR S L col gap r
def rcsR (S : List Int) (L : List T2) (col gap : Int) (r : Geo.Rc) : List Geo.Rc := if rcsE S L col gap r = 0 then allL (max col 1).toNat S L gap r S.length else []
theorem askR_ok {S : List Int} {L : List T2} {col gap : Int} {r : Geo.Rc} (h : askR S L col gap r = 0) : wrongE S L col gap = 0 ∧ Geo.may r = true := by
  have h1 := ask_ok h (wrongE S L col gap) (by simp)
  have h2 := ask_ok h (Geo.checkE r) (by simp)
  refine ⟨h1, ?_⟩
  unfold Geo.checkE at h2
  cases hm : Geo.may r
  · rw [hm] at h2
    simp at h2
  · rfl
theorem may_room {r : Geo.Rc} (h : Geo.may r = true) : okR r.w = true ∧ okR r.h = true := by
  have := (Geo.may_iff r.x r.y r.w r.h).1 h
  simp [okR, inB]
  omega
def RctE (l : List Geo.Rc) (err : Int) (W : World) (e : Ending) (w' : World) : Prop := ∃ A c, e = .returned (.tuple #[.slice A l.length c, .int .i64 err]) ∧ w'.ownsRow W.heap.size 42 4 (.slice A l.length c) l.length (Geo.rcells l) ∧ Below W.heap.size W w'
theorem RctE.none {err : Int} {W w' : World} (hb : Below W.heap.size W w') : RctE [] err W (.returned (.tuple #[.slice none 0 0, .int .i64 err])) w' := ⟨Option.none, 0, rfl, World.ownsRow_nil _ _ _ _, hb⟩
theorem rcells_zero (n : Nat) : Geo.rcells (List.replicate n ⟨0, 0, 0, 0⟩) = List.replicate (n * 4) (.int .i64 0) := by
  induction n with
  | zero => rfl
  | succ n ih =>
    rw [show (n + 1) * 4 = n * 4 + 1 + 1 + 1 + 1 by omega]
    simp only [List.replicate_succ, Geo.rcells, ih]
theorem made_four (v : Value) (n : Nat) : (madeCells #[v, v, v, v] n).toList = List.replicate n v := by
  apply List.ext_getElem
  · simp [madeCells]
  · intro i h1 h2
    have h3 : i % 4 < 4 := Nat.mod_lt _ (by omega)
    simp only [madeCells, Array.getElem_toList, Array.getElem_map, Array.getElem_range, List.getElem_replicate]
    have : i % 4 = 0 ∨ i % 4 = 1 ∨ i % 4 = 2 ∨ i % 4 = 3 := by omega
    rcases this with h | h | h | h <;> simp [h]
theorem make_rcs (n : Nat) (hn : n ≤ 1000000) (w : World) : (Instr.makeSlice 36 (.int .i64 (n : Int)) (.int .i64 (n : Int))).run Try.prog w = .ok (.slice (some ⟨w.heap.size, 0, none⟩) n n) (w.alloc (.cells (madeCells #[.int .i64 0, .int .i64 0, .int .i64 0, .int .i64 0] (n * 4)) 42)) := by
  obtain ⟨i0, hi, hz0, hz1, hz2⟩ := info_parts Geo.info_rect
  have hr := run_make (P := Try.prog) w 36 42 i0 _ Try.underlying36 hi hz0 .i64 .i64 n n (by omega) (Int.le_refl _) (by rw [hz2]; omega) (by omega)
  simp only [Int.toNat_natCast, hz1] at hr
  exact hr
theorem own_rcs {w : World} {B g n : Nat} (hB : B ≤ g) (hn : n ≤ 1000000) (h : w.heap[g]? = some (.cells (madeCells #[.int .i64 0, .int .i64 0, .int .i64 0, .int .i64 0] (n * 4)) 42 (0, 0))) : w.ownsRow B 42 4 (.slice (some ⟨g, 0, none⟩) n n) n (Geo.rcells (List.replicate n ⟨0, 0, 0, 0⟩)) := by
  have e : (madeCells #[Value.int .i64 0, Value.int .i64 0, Value.int .i64 0, Value.int .i64 0] (n * 4)).toList = Geo.rcells (List.replicate n ⟨0, 0, 0, 0⟩) := by
    rw [rcells_zero, made_four]
  have e2 : (madeCells #[Value.int .i64 0, Value.int .i64 0, Value.int .i64 0, Value.int .i64 0] (n * 4)).size = n * 4 := by
    rw [← Array.length_toList, e, Geo.rcells_len]
    simp
  refine ⟨by rw [Geo.rcells_len]; simp, .inr ⟨g, n, _, rfl, hB, h, Nat.le_refl _, by unfold maxLen; omega, by omega, ?_⟩⟩
  rw [e]
  rw [← e2, ← Array.length_toList, e, List.take_length]
theorem enters_r1 : Enters Try.prog 44 := enters_of Try.func44 (by kernel_rfl) rfl
end Go.Proofs.Ytjippgflempdmaa

/- Layer 11: Rects, the program's. -/
namespace Go.Proofs.Ytjippgflempdmaa
set_option linter.unusedVariables false
set_option linter.unusedSimpArgs false
set_option maxRecDepth 100000
open Go.RowKit
attribute [local go_sem] max_fold min_fold

set_option maxRecDepth 100000 in
set_option maxHeartbeats 8000000 in
theorem Rects_any (B : Nat) (A A2 : Option Addr) (c c2 : Nat) (S : List Int) (L : List T2) (col gap rx ry rw_ rh : Int) (w : World) (hA : At B w A (ints S)) (hA2 : At B w A2 (t2s L)) (hB : B ≤ w.heap.size) (hl : S.length ≤ 9000000000000000000) (hl2 : L.length ≤ 9000000000000000000) :
    Calls Try.prog 13 #[.slice A S.length c, .slice A2 L.length c2, .int .i64 col, .int .i64 gap, .agg #[.int .i64 rx, .int .i64 ry, .int .i64 rw_, .int .i64 rh]] w (RctE (rcsR S L col gap ⟨rx, ry, rw_, rh⟩) (rcsE S L col gap ⟨rx, ry, rw_, rh⟩) w) := by
  have HW : Hid (∀ w', At B w' A (ints S) → At B w' A2 (t2s L) → B ≤ w'.heap.size → Calls Try.prog 38 #[.slice A S.length c, .slice A2 L.length c2, .int .i64 col, .int .i64 gap] w' fun e w'' => e = .returned (.int .i64 (wrongE S L col gap)) ∧ Below w'.heap.size w' w'') := Go.Lib.hid fun w' h1 h2 h3 => wrong_any B A A2 c c2 S L col gap w' h1 h2 h3 hl hl2
  obtain ⟨E, hE⟩ : ∃ E, askR S L col gap ⟨rx, ry, rw_, rh⟩ = E := ⟨_, rfl⟩
  have hEE : askE [wrongE S L col gap, Geo.checkE ⟨rx, ry, rw_, rh⟩] = E := hE
  have HOK : Hid (E = 0 → wrongE S L col gap = 0 ∧ Geo.may ⟨rx, ry, rw_, rh⟩ = true) := Go.Lib.hid fun h => askR_ok (hE.trans h)
  have HP : Hid (wrongE S L col gap = 0 → S.length = L.length → ∀ w', At B w' A (ints S) → At B w' A2 (t2s L) → B ≤ w'.heap.size → Calls Try.prog 39 #[.slice A S.length c, .slice A2 L.length c2, .int .i64 col, .int .i64 gap] w' (PlanPost (max col 1).toNat S L gap S.length w')) := Go.Lib.hid fun h1 h2 w' h3 h4 h5 => planned_any B A A2 c c2 _ S L col gap w' h3 h4 h5 (wrong_ok h1 h2).1 (wrong_ok h1 h2).2.1
  have HWO : Hid (wrongE S L col gap = 0 → S.length = L.length → PlanOk (max col 1).toNat S L gap ∧ max col 1 = ((max col 1).toNat : Int) ∧ S.length ≤ 1024) := Go.Lib.hid wrong_ok
  have HE : Hid (rcsE S L col gap ⟨rx, ry, rw_, rh⟩ = if E = 0 then (if S.length = L.length then (if (allL (max col 1).toNat S L gap ⟨rx, ry, rw_, rh⟩ S.length).all Geo.may then 0 else 9) else 110) else E) := Go.Lib.hid (by rw [← hE]; rfl)
  have HR : Hid (rcsR S L col gap ⟨rx, ry, rw_, rh⟩ = if rcsE S L col gap ⟨rx, ry, rw_, rh⟩ = 0 then allL (max col 1).toNat S L gap ⟨rx, ry, rw_, rh⟩ S.length else []) := Go.Lib.hid rfl
  obtain ⟨N, hN⟩ : ∃ N, S.length = N := ⟨_, rfl⟩
  obtain ⟨M, hM⟩ : ∃ N, L.length = N := ⟨_, rfl⟩
  have HNM := Go.Lib.hid (⟨hN, hM⟩ : _ ∧ _)
  rw [hN, hM] at HW HP HWO HE ⊢
  rw [hN] at HR
  clear hE hl hl2 hN hM
  have HWE : Hid (∃ W, wrongE S L col gap = W) := Go.Lib.hid ⟨_, rfl⟩
  generalize wrongE S L col gap = e1 at *
  obtain ⟨e2, he2⟩ : ∃ e, Geo.checkE ⟨rx, ry, rw_, rh⟩ = e := ⟨_, rfl⟩
  rw [he2] at hEE
  have HE2 := Go.Lib.hid he2
  have HEE := Go.Lib.hid hEE
  clear he2 hEE HWE
  go_enter Try.func13, Try.ntmps13
  go_wp2
  obtain ⟨w0, hw0⟩ : ∃ w0, w.alloc (.cells #[.int .i64 rx, .int .i64 ry, .int .i64 rw_, .int .i64 rh] 42) = w0 := ⟨_, rfl⟩
  have hb0 : Below w.heap.size w w0 := hw0 ▸ (Below.refl _ _).alloc (Nat.le_refl _) _
  have hr0 : w0.heap[w.heap.size]? = some (.cells #[.int .i64 rx, .int .i64 ry, .int .i64 rw_, .int .i64 rh] 42 (0, 0)) := by rw [← hw0]; exact alloc_at _ _
  rw [hw0]
  clear hw0
  obtain ⟨qr, hqr⟩ : ∃ q, w.heap.size = q := ⟨_, rfl⟩
  have HQR := Go.Lib.hid hqr
  have HA := Go.Lib.hid (hA.below (hb0.mono hB))
  have HA2 := Go.Lib.hid (hA2.below (hb0.mono hB))
  have hB0 : B ≤ w0.heap.size := by have := hb0.size; omega
  have HB0 := Go.Lib.hid hb0
  rw [hqr] at hr0 ⊢
  clear hA hA2 hb0 hqr
  have k0 : w0.cell? ⟨qr, 0, none⟩ = some (.int .i64 rx) := by have := blk_cell hr0 0; simpa using this
  have k1 : w0.cell? ⟨qr, 1, none⟩ = some (.int .i64 ry) := by have := blk_cell hr0 1; simpa using this
  have k2 : w0.cell? ⟨qr, 2, none⟩ = some (.int .i64 rw_) := by have := blk_cell hr0 2; simpa using this
  have k3 : w0.cell? ⟨qr, 3, none⟩ = some (.int .i64 rh) := by have := blk_cell hr0 3; simpa using this
  have lr0 := blk_lt2 hr0
  refine region_mono 9 [[], [], [], [], [0, 1, 2, 3], [], [5], [4, 6], [7]] (pick [IsV (.slice A N c), IsV (.slice A2 M c2), IsV (.int .i64 col), IsV (.int .i64 gap), IsV (.int .i64 e1), IsV (.agg #[.int .i64 rx, .int .i64 ry, .int .i64 rw_, .int .i64 rh]), IsV (.int .i64 e2), BlkV #[.int .i64 e1, .int .i64 e2] 25 2, IsV (.int .i64 E)]) mixed (by kernel_rfl) (pick_stable ?_) ?_ ?_
  · simp [IsV.stable, BlkV.stable]
  · simp only [List.take_succ_cons, List.take_zero, MonoObs, DepAll, dsOf, List.map_cons, List.map_nil]
    refine ⟨?_, ?_, ?_, ?_, ?_, ?_, ?_, ?_, ?_, trivial⟩
    all_goals simp [go_sem, upon1, pick, IsV, BlkV]
    all_goals first
      | exact fun w1 _ => Below.refl _ _
      | (intro w1 hw; simp [(bcell hw).1 _ _ lr0, k0, k1, k2, k3, go_sem, Result.andThen]; exact Below.refl _ _)
      | with_reducible exact fun w1 hw => below_up (HW.out w1 (HA.out.below (hw.mono hB0)) (HA2.out.below (hw.mono hB0)) (Nat.le_trans hB0 hw.size))
      | with_reducible exact fun w1 hw => below_up (HE2.out ▸ Geo.check_any rx ry rw_ rh w1)
      | exact fun w1 hw => ⟨alloc_get _ _ _, (Below.refl _ _).alloc (Nat.le_refl _) _⟩
      | (rintro w1 hw v g rfl hg; have := asked_at g [e1, e2] 2 w1 hg rfl rfl (by omega); rw [HEE.out] at this; exact same_up this)
  · intro w1 hb1
    simp only [show List.range 9 = [0, 1, 2, 3, 4, 5, 6, 7, 8] from rfl, DepAll, dsOf, List.map_cons, List.map_nil, List.take_succ_cons, List.take_zero]
    rintro _ rfl _ rfl _ rfl _ rfl _ rfl _ rfl _ rfl v7 ⟨g7, rfl, hg7⟩ _ rfl
    simp only [List.getD_cons_succ, List.getD_cons_zero, List.drop_succ_cons, List.drop_zero]
    have hr1 := (hb1.block _ lr0).trans hr0
    have HA1 := Go.Lib.hid (HA.out.below (hb1.mono hB0))
    have HA21 := Go.Lib.hid (HA2.out.below (hb1.mono hB0))
    have hs1 := hb1.size
    have HB1 := Go.Lib.hid (HB0.out.trans (hb1.mono HB0.out.size))
    clear hg7 hb1 hr0 k0 k1 k2 k3 HW HA HA2 HEE
    by_cases h0 : E = 0
    · by_cases hlen : N = M
      · subst h0
        subst hlen
        have hlen : N = N := rfl
        obtain ⟨he1, hmay⟩ := HOK.out rfl
        subst he1
        obtain ⟨hok, hcol, hsl⟩ := HWO.out rfl hlen
        have HP1 := Go.Lib.hid (HP.out rfl hlen)
        obtain ⟨m, hm⟩ : ∃ m : Nat, (max col 1).toNat = m := ⟨_, rfl⟩
        rw [hm] at hok hcol HP1
        have hm1 := hok.wid.m1
        have hm2 := hok.wid.m2
        have hgap := hok.wid.g
        have hgg : okG gap = true := by simpa [okG, inB] using hgap
        have hub := use_bd (n := (m : Int)) (by omega) S N
        have hrN := rw_most (n := (m : Int)) (by omega) S N
        obtain ⟨U, hU⟩ : ∃ U, (useP m S N).toNat = U := ⟨_, rfl⟩
        obtain ⟨R, hR⟩ : ∃ R, rwN m S N = R := ⟨_, rfl⟩
        have hU64 : U ≤ 64 := by omega
        have hR1 : R ≤ 1024 := by omega
        obtain ⟨l1, hl1⟩ : ∃ l, usedL m S (wsL L) gap N = l := ⟨_, rfl⟩
        obtain ⟨l2, hl2⟩ : ∃ l, hgtL m S (hsL L) N = l := ⟨_, rfl⟩
        have h1len : l1.length = U := by rw [← hl1, usedL_len hm1, hU]
        have h2len : l2.length = R := by rw [← hl2, hgtL_len, hR]
        have h1ok : okN l1 := by rw [← hl1]; have := usedL_ok hok.wid; rwa [HNM.out.1] at this
        have h2ok : okN l2 := by rw [← hl2]; have := hgtL_ok (n := (m : Int)) (S := S) hok.hd; rwa [HNM.out.1] at this
        obtain ⟨hro1, hro2⟩ := may_room hmay
        obtain ⟨⟨f1, f2⟩, f3, f4⟩ := row_facts (room := rw_) h1ok (by omega) hgg hro1
        obtain ⟨⟨g1, g2⟩, g3, g4⟩ := row_facts (room := rh) h2ok (by omega) hgg hro2
        have HG1 : Hid (∀ w' A c, At w'.heap.size w' A (ints l1) → Calls Try.prog 43 #[.slice A U c, .int .i64 gap, .int .i64 rw_] w' (Int2E (rowR (trkL l1) gap rw_) (rowB (trkL l1) gap rw_) 0 w')) := Go.Lib.hid fun w' A c h => by
          have := grown_any _ A c l1 gap rw_ w' h (Nat.le_refl _) (by omega) h1ok hgg hro1
          rwa [h1len] at this
        have HG2 : Hid (∀ w' A c, At w'.heap.size w' A (ints l2) → Calls Try.prog 43 #[.slice A R c, .int .i64 gap, .int .i64 rh] w' (Int2E (rowR (trkL l2) gap rh) (rowB (trkL l2) gap rh) 0 w')) := Go.Lib.hid fun w' A c h => by
          have := grown_any _ A c l2 gap rh w' h (Nat.le_refl _) (by omega) h2ok hgg hro2
          rwa [h2len] at this
        have hall : allL m S L gap ⟨rx, ry, rw_, rh⟩ N = rctL m S ⟨rx, ry, rw_, rh⟩ (rowB (trkL l1) gap rw_) (rowR (trkL l1) gap rw_) (rowB (trkL l2) gap rh) (rowR (trkL l2) gap rh) N := by
          rw [← hl1, ← hl2]
          unfold allL xsL wdL ysL htL
          rw [HNM.out.1]
        have hx := HE.out
        rw [if_pos rfl, if_pos hlen, hm, hall] at hx
        have hy := HR.out
        rw [hm, hall] at hy
        have HEND1 : Hid (rcsE S L col gap ⟨rx, ry, rw_, rh⟩ = rctE m S ⟨rx, ry, rw_, rh⟩ (rowB (trkL l1) gap rw_) (rowR (trkL l1) gap rw_) (rowB (trkL l2) gap rh) (rowR (trkL l2) gap rh) N) := Go.Lib.hid hx
        have HEND2 := Go.Lib.hid hy
        rw [h1len] at f1 f2
        rw [h2len] at g1 g2
        clear hx hy hall HE HR HP HWO HOK h1ok h2ok hro1 hro2 hgg
        generalize rowR (trkL l1) gap rw_ = ws at *
        generalize rowB (trkL l1) gap rw_ = xs at *
        generalize rowR (trkL l2) gap rh = hs at *
        generalize rowB (trkL l2) gap rh = ys at *
        have HL1 := Go.Lib.hid hl1
        have HL2 := Go.Lib.hid hl2
        have HHU := Go.Lib.hid hU
        have HHR := Go.Lib.hid hR
        have HF := Go.Lib.hid (⟨f1, f2, f3, f4, g1, g2, g3, g4, hmay⟩ : _ ∧ _ ∧ _ ∧ _ ∧ _ ∧ _ ∧ _ ∧ _ ∧ _)
        have HOK1 := Go.Lib.hid hok
        clear hl1 hl2 h1len h2len f1 f2 f3 f4 g1 g2 g3 g4 hmay hgap hub hrN hlen hm hcol hU hR hok
        go_wp2_with fail
        refine (HP1.out _ HA1.out HA21.out (by omega)).mono ?_
        rintro e w2 ⟨A1, c1, Z, Au, cu, Av, cv, rfl, hrec, hrows, hat2, hat3, hb2⟩
        rw [HHU.out, HHR.out]
        rw [HL1.out] at hat2
        rw [HL2.out] at hat3
        obtain ⟨w3, hw3⟩ : ∃ w3, w2.alloc (.cells #[.slice A1 Z.length c1, .slice Au U cu, .slice Av R cv] 69) = w3 := ⟨_, rfl⟩
        have hb3 : Below w2.heap.size w2 w3 := hw3 ▸ (Below.refl _ _).alloc (Nat.le_refl _) _
        have hp3 : w3.heap[w2.heap.size]? = some (.cells #[.slice A1 Z.length c1, .slice Au U cu, .slice Av R cv] 69 (0, 0)) := by rw [← hw3]; exact alloc_at _ _
        have hr3 := (hb3.block _ (Nat.lt_of_lt_of_le (blk_lt2 hr1) hb2.size)).trans ((hb2.block _ (blk_lt2 hr1)).trans hr1)
        obtain ⟨_, kp1, _, _, _, _, lp3⟩ := blk3 hp3
        have kr2 : w3.cell? ⟨qr, 2, none⟩ = some (.int .i64 rw_) := by have := blk_cell hr3 2; simpa using this
        have lr3 := blk_lt2 hr3
        have hs3 := hb3.size
        have hs2 := hb2.size
        have HB3 := Go.Lib.hid (HB1.out.trans ((hb2.trans (hb3.mono hs2)).mono (by have := HB1.out.size; omega)))
        have HROW3 := Go.Lib.hid (hrows.on hb3)
        have hat23 := (hat2.ext hb3).mono hb3.size
        have HAT3 := Go.Lib.hid ((hat3.ext hb3).mono hb3.size)
        have HREC := Go.Lib.hid hrec
        obtain ⟨p, hp⟩ : ∃ p, w2.heap.size = p := ⟨_, rfl⟩
        rw [hp] at kp1 lp3 hp3
        clear hrec hrows hat2 hat3 hb2 hb3 HA1 HA21 HP1 hr1 HB1
        go_wp2_with fail
        refine (HG1.out w3 Au cu hat23).mono ?_
        rintro e w4 ⟨Aw, cw, Ax, cx, rfl, hw4, hx4, hap, hb4⟩
        rw [HF.out.1] at hw4 ⊢
        rw [HF.out.2.1] at hx4 ⊢
        have HW4 := Go.Lib.hid hw4
        have HX4 := Go.Lib.hid hx4
        have HB4 := Go.Lib.hid hb4
        have hp4 := (hb4.block _ lp3).trans hp3
        have hr4 := (hb4.block _ lr3).trans hr3
        have hs4 := hb4.size
        clear hw4 hx4 hap hb4 kp1 kr2 lr3 lp3 hp3 hr3 hw3 hp HG1 hat23
        have kp4 : w4.cell? ⟨p, 2, none⟩ = some (.slice Av R cv) := by have := blk_cell hp4 2; simpa using this
        have kr4 : w4.cell? ⟨qr, 3, none⟩ = some (.int .i64 rh) := by have := blk_cell hr4 3; simpa using this
        have lp4 := blk_lt2 hp4
        have lr4 := blk_lt2 hr4
        have HPQ := Go.Lib.hid (⟨lp4, lr4⟩ : _ ∧ _)
        have lp4a : p < w4.heap.size + 1 := by omega
        have lp4b : p < w4.heap.size + 1 + 1 := by omega
        have lr4a : qr < w4.heap.size + 1 := by omega
        have lr4b : qr < w4.heap.size + 1 + 1 := by omega
        go_wp2_with fail
        obtain ⟨w5, hw5⟩ : ∃ w5, ((w4.alloc (.cells #[.slice Aw U cw] 23)).alloc (.cells #[.slice Ax U cx] 23)).alloc (.cells #[.int .i64 0] 25) = w5 := ⟨_, rfl⟩
        have hb5 : Below w4.heap.size w4 w5 := hw5 ▸ (((Below.refl _ _).alloc (Nat.le_refl _) _).alloc (by simp) _).alloc (by simp; omega) _
        have he5 : w5.heap[w4.heap.size + 2]? = some (.cells #[.int .i64 0] 25 (0, 0)) := by rw [← hw5]; exact alloc_three _ _ _ _
        have hx5 : w5.heap[w4.heap.size + 1]? = some (.cells #[.slice Ax U cx] 23 (0, 0)) := by rw [← hw5, Below.heap_alloc _ _ _ (by simp)]; exact alloc_two _ _ _
        have hw5' : w5.heap[w4.heap.size]? = some (.cells #[.slice Aw U cw] 23 (0, 0)) := by rw [← hw5, Below.heap_alloc _ _ _ (by first | (simp; done) | (simp; omega)), Below.heap_alloc _ _ _ (by simp)]; exact alloc_at _ _
        have hz5 : w5.heap.size = w4.heap.size + 3 := by rw [← hw5]; simp
        have hp5 := (hb5.block _ (blk_lt2 hp4)).trans hp4
        have hr5 := (hb5.block _ (blk_lt2 hr4)).trans hr4
        have lp5 := blk_lt2 hp5
        have lr5 := blk_lt2 hr5
        have hq5 : w4.heap.size + 1 + 1 < w5.heap.size := by omega
        have HAT5 := Go.Lib.hid ((HAT3.out.ext (HB4.out.trans (hb5.mono hs4))).mono (Nat.le_trans hs4 hb5.size))
        have HB5 := Go.Lib.hid hb5
        have hs5 := hb5.size
        clear hb5 hp4 hr4 kp4 kr4 lp4 lr4 lp4a lp4b lr4a lr4b
        rw [hw5]
        refine (HG2.out w5 Av cv HAT5.out).mono ?_
        rintro e w6 ⟨Ah, ch, Ay, cy, rfl, hh6, hy6, hap, hb6⟩
        rw [HF.out.2.2.2.2.1] at hh6 ⊢
        rw [HF.out.2.2.2.2.2.1] at hy6 ⊢
        have HH6 := Go.Lib.hid hh6
        have HY6 := Go.Lib.hid hy6
        have HB6 := Go.Lib.hid hb6
        have hp6 := (hb6.block _ lp5).trans hp5
        have hr6 := (hb6.block _ lr5).trans hr5
        have he6 := (hb6.block _ hq5).trans he5
        have hx6 := (hb6.block _ (by omega)).trans hx5
        have hw6 := (hb6.block _ (by omega)).trans hw5'
        have hs6 := hb6.size
        obtain ⟨qw, hqw⟩ : ∃ q, w4.heap.size = q := ⟨_, rfl⟩
        rw [hqw] at hw6 hx6 he6 hz5 hq5
        clear hh6 hy6 hap hb6 lr5 lp5 hp5 hr5 he5 hx5 hw5' hw5 HG2
        rw [hqw]
        have HQW := Go.Lib.hid hqw
        clear hqw
        have ke6 : w6.cell? ⟨qw + 1 + 1, 0, none⟩ = some (.int .i64 0) := by have := blk_cell he6 0; simpa using this
        have fe6 : w6.frozen? ⟨qw + 1 + 1, 0, none⟩ = false := blk_frozen he6 0
        have kp0 : w6.cell? ⟨p, 0, none⟩ = some (.slice A1 Z.length c1) := by have := blk_cell hp6 0; simpa using this
        have lp6 := blk_lt2 hp6
        have hne1 : p ≠ qw + 1 + 1 := by have := HQW.out; have := HPQ.out; omega
        have hne2 : qw + 1 + 1 ≠ p := fun e => hne1 e.symm
        have hmk := make_rcs N (by omega)
        have le6 : qw + 1 + 1 < w6.heap.size := by omega
        have le6a : qw + 1 + 1 < w6.heap.size + 1 := by omega
        have le6b : qw + 1 + 1 < w6.heap.size + 1 + 1 := by omega
        have le6c : qw + 1 + 1 < w6.heap.size + 1 + 1 + 1 := by omega
        have lp6a : p < w6.heap.size + 1 := by omega
        have lp6b : p < w6.heap.size + 1 + 1 := by omega
        have lp6c : p < w6.heap.size + 1 + 1 + 1 := by omega
        go_wp2_with fail
        obtain ⟨w7, hw7⟩ : ∃ w7, ((((w6.setCell ⟨qw + 1 + 1, 0, none⟩ (.int .i64 0)).alloc (.cells #[.slice Ah R ch] 23)).alloc (.cells #[.slice Ay R cy] 23)).alloc (.cells (madeCells #[.int .i64 0, .int .i64 0, .int .i64 0, .int .i64 0] (N * 4)) 42)).alloc (.cells #[.slice (some ⟨w6.heap.size + 1 + 1, 0, none⟩) N N] 36) = w7 := ⟨_, rfl⟩
        have hz7 : w7.heap.size = w6.heap.size + 4 := by rw [← hw7]; simp
        have hsame : ∀ k, k < w6.heap.size → k ≠ qw + 1 + 1 → w7.heap[k]? = w6.heap[k]? := fun k h1 h2 => by
          rw [← hw7, Below.heap_alloc _ _ _ (by first | (simp; done) | (simp; omega)), Below.heap_alloc _ _ _ (by first | (simp; done) | (simp; omega)), Below.heap_alloc _ _ _ (by first | (simp; done) | (simp; omega)), Below.heap_alloc _ _ _ (by simpa using h1), heap_setCell_other _ _ _ _ (by simpa using h2)]
        have he7 : w7.heap[qw + 1 + 1]? = some (.cells #[.int .i64 0] 25 (0, 0)) := by
          rw [← hw7, Below.heap_alloc _ _ _ (by first | (simp; done) | (simp; omega)), Below.heap_alloc _ _ _ (by first | (simp; done) | (simp; omega)), Below.heap_alloc _ _ _ (by first | (simp; done) | (simp; omega)), Below.heap_alloc _ _ _ (by simpa using le6)]
          have := store_in (i := 0) (u := .int .i64 0) he6
          simpa using this
        have hqh7 : w7.heap[w6.heap.size]? = some (.cells #[.slice Ah R ch] 23 (0, 0)) := by
          rw [← hw7, Below.heap_alloc _ _ _ (by first | (simp; done) | (simp; omega)), Below.heap_alloc _ _ _ (by first | (simp; done) | (simp; omega)), Below.heap_alloc _ _ _ (by simp)]
          have := alloc_at (w6.setCell ⟨qw + 1 + 1, 0, none⟩ (.int .i64 0)) (.cells #[.slice Ah R ch] 23)
          simpa using this
        have hqy7 : w7.heap[w6.heap.size + 1]? = some (.cells #[.slice Ay R cy] 23 (0, 0)) := by
          rw [← hw7, Below.heap_alloc _ _ _ (by first | (simp; done) | (simp; omega)), Below.heap_alloc _ _ _ (by simp)]
          have := alloc_two (w6.setCell ⟨qw + 1 + 1, 0, none⟩ (.int .i64 0)) (.cells #[.slice Ah R ch] 23) (.cells #[.slice Ay R cy] 23)
          simpa using this
        have hg7 : w7.heap[w6.heap.size + 1 + 1]? = some (.cells (madeCells #[.int .i64 0, .int .i64 0, .int .i64 0, .int .i64 0] (N * 4)) 42 (0, 0)) := by
          rw [← hw7, Below.heap_alloc _ _ _ (by simp)]
          have := alloc_three (w6.setCell ⟨qw + 1 + 1, 0, none⟩ (.int .i64 0)) (.cells #[.slice Ah R ch] 23) (.cells #[.slice Ay R cy] 23) (.cells (madeCells #[.int .i64 0, .int .i64 0, .int .i64 0, .int .i64 0] (N * 4)) 42)
          simpa using this
        have hqo7 : w7.heap[w6.heap.size + 1 + 1 + 1]? = some (.cells #[.slice (some ⟨w6.heap.size + 1 + 1, 0, none⟩) N N] 36 (0, 0)) := by
          rw [← hw7]
          have := alloc_at ((((w6.setCell ⟨qw + 1 + 1, 0, none⟩ (.int .i64 0)).alloc (.cells #[.slice Ah R ch] 23)).alloc (.cells #[.slice Ay R cy] 23)).alloc (.cells (madeCells #[.int .i64 0, .int .i64 0, .int .i64 0, .int .i64 0] (N * 4)) 42)) (.cells #[.slice (some ⟨w6.heap.size + 1 + 1, 0, none⟩) N N] 36)
          simpa using this
        have hQW := HQW.out
        have hQR := HQR.out
        have hS3 := HB3.out.size
        have hb47 : Below w4.heap.size w4 w7 := by
          have h1 := HB5.out.trans (HB6.out.mono hs5)
          rw [← hw7]
          exact ((((h1.setCell (p := ⟨qw + 1 + 1, 0, none⟩) (by show _ ≤ qw + 1 + 1; omega) _).alloc (by simp; omega) _).alloc (by simp; omega) _).alloc (by simp; omega) _).alloc (by simp; omega) _
        have hb7 : Below w.heap.size w w7 := (HB3.out.trans (HB4.out.mono hS3)).trans (hb47.mono (by omega))
        rw [hw7]
        clear hw7
        have hpq := HPQ.out
        obtain ⟨g, hg⟩ : ∃ g, w6.heap.size + 1 + 1 = g := ⟨_, rfl⟩
        rw [hg] at hg7 hqo7 ⊢
        obtain ⟨qe, hqe⟩ : ∃ q, qw + 1 + 1 = q := ⟨_, rfl⟩
        rw [hqe] at he7 hsame ⊢
        have hqe5 : qe < w5.heap.size := by omega
        have hax : AtS w7 g qe Ax (ints xs) := AtS.of ((At.of_own HX4.out).below hb47) (by omega) (by omega) (by omega)
        have haw : AtS w7 g qe Aw (ints ws) := AtS.of ((At.of_own HW4.out).below hb47) (by omega) (by omega) (by omega)
        have hay : AtS w7 g qe Ay (ints ys) := AtS.own (own_same HY6.out (top := w6.heap.size) (fun k hk => (HY6.out.lt k hk).2) fun k h1 h2 => hsame k h2 (by omega)) (fun e => by have := (HY6.out.lt g e).2; omega) hqe5
        have hah : AtS w7 g qe Ah (ints hs) := AtS.own (own_same HH6.out (top := w6.heap.size) (fun k hk => (HH6.out.lt k hk).2) fun k h1 h2 => hsame k h2 (by omega)) (fun e => by have := (HH6.out.lt g e).2; omega) hqe5
        have hro := HROW3.out.on HB4.out
        have hrowo : AtS w7 g qe A1 (Z.map Rw.v) := AtS.of (hro.outer.below hb47) (by omega) (by omega) (by omega)
        have hrowi : ∀ z ∈ Z, AtS w7 g qe z.A (t3s (seg m S z.a z.b)) := fun z hz => AtS.of ((hro.inner z hz).below hb47) (by omega) (by omega) (by omega)
        have hin : RIn w7 g qe qr (qw + 1) (w6.heap.size + 1) qw w6.heap.size (g + 1) N U R ⟨rx, ry, rw_, rh⟩ Ax Ay Aw Ah cx cy cw ch xs ys ws hs :=
          ⟨(hsame qr (by omega) (by omega)).trans hr6, (hsame (qw + 1) (by omega) (by omega)).trans hx6, hqy7, (hsame qw (by omega) (by omega)).trans hw6, hqh7, hqo7, ⟨by omega, by omega, by omega, by omega, by omega, by omega⟩, ⟨by omega, by omega, by omega, by omega, by omega, by omega⟩, hax, hay, haw, hah, HF.out.2.1, HF.out.2.2.2.2.2.1, HF.out.1, HF.out.2.2.2.2.1, HF.out.2.2.2.1, HF.out.2.2.2.2.2.2.2.1, HF.out.2.2.1, HF.out.2.2.2.2.2.2.1, HF.out.2.2.2.2.2.2.2.2, ⟨hsl, hU64, hR1⟩⟩
        have hst : RcsSt w w7 g qe N (rctX m S ⟨rx, ry, rw_, rh⟩ xs ws ys hs N 0) (rctE m S ⟨rx, ry, rw_, rh⟩ xs ws ys hs 0) w7 :=
          ⟨hb7, Nat.le_refl _, fun _ _ _ _ => rfl, by rw [rctX_zero]; exact own_rcs (by omega) (by omega) hg7, he7, by omega⟩
        have HIN := Go.Lib.hid hin
        have HST := Go.Lib.hid hst
        have hqog : g + 1 ≠ g ∧ g + 1 ≠ qe ∧ g + 1 < w7.heap.size := by omega
        have HQO := Go.Lib.hid (⟨hqo7, hqog⟩ : _ ∧ _)
        have HRO := Go.Lib.hid (⟨hrowo, hrowi⟩ : _ ∧ _)
        clear hax haw hay hah hro hrowo hrowi hin hst hqo7 hqog hb47 hb7 he7 hg7 hqh7 hqy7 hsame hp6 hr6 he6 hx6 hw6 ke6 fe6 kp0 hmk hne1 hne2
        refine (each_any 44 _ (fun a w => enters_r1 a w) m (by omega) S N hsl A1 c1 Z HREC.out (fun i wr => RcsSt w w7 g qe N (rctX m S ⟨rx, ry, rw_, rh⟩ xs ws ys hs N i) (rctE m S ⟨rx, ry, rw_, rh⟩ xs ws ys hs i) wr) (fun i wr h => ⟨HRO.out.1.at h, fun z hz => (HRO.out.2 z hz).at h⟩) (fun i wr w' h hb => h.on hb) (fun i wr hi h => ?_) _ HST.out).mono ?_
        · have c1 := col_bd (n := (m : Int)) (by omega) S i
          have c2 := wide_bd (n := (m : Int)) (by omega) S i
          have c3 := use_ge (n := (m : Int)) (S := S) hi
          have c4 := rw_lt (n := (m : Int)) (by omega) S hi
          rw [HHR.out] at c4
          have c5 := HHU.out
          have hrp := rput_any (x := (colP m S i).toNat) (l := (colP m S i + wideP m S i - 1).toNat) (y := rowP m S i) HIN.out h (rctX_len (by omega)) hi (by omega) (by omega) c4
          rw [show (((colP m S i).toNat : Nat) : Int) = colP m S i by omega, show (((colP m S i + wideP m S i - 1).toNat : Nat) : Int) + 1 - colP m S i = wideP m S i by omega] at hrp
          have hset := rctX_set (n := (m : Int)) (S := S) (r := ⟨rx, ry, rw_, rh⟩) (xs := xs) (ws := ws) (ys := ys) (hs := hs) hi
          unfold rctP at hset
          rw [hset] at hrp
          rw [rctE_succ]
          exact hrp
        rintro e w8 ⟨rfl, h8⟩
        rw [rctX_end] at h8
        have hbx := (h8.same (g + 1) HQO.out.2.2.2 HQO.out.2.1 HQO.out.2.2.1).trans HQO.out.1
        have ko8 : w8.cell? ⟨g + 1, 0, none⟩ = some (.slice (some ⟨g, 0, none⟩) N N) := by have := blk_cell hbx 0; simpa using this
        have ke8 : w8.cell? ⟨qe, 0, none⟩ = some (.int .i64 (rctE m S ⟨rx, ry, rw_, rh⟩ xs ws ys hs N)) := by have := blk_cell h8.ebox 0; simpa using this
        have le8 := blk_lt2 h8.ebox
        have H8 := Go.Lib.hid h8
        clear h8 hbx HIN HST HQO HRO HH6 HY6 HW4 HX4
        have HLE := Go.Lib.hid (rctL_len (m : Int) S ⟨rx, ry, rw_, rh⟩ xs ws ys hs N)
        generalize rctL m S ⟨rx, ry, rw_, rh⟩ xs ws ys hs N = RL at *
        generalize rctE m S ⟨rx, ry, rw_, rh⟩ xs ws ys hs N = E8 at *
        by_cases h9 : E8 = 0
        · have HE9 := Go.Lib.hid (⟨HEND2.out, HEND1.out⟩ : _ ∧ _)
          subst h9
          go_wp2
          rw [HE9.out.1, if_pos HE9.out.2, HE9.out.2]
          go_ret2
          exact ⟨some ⟨g, 0, none⟩, N, by rw [HLE.out]; rfl, by rw [HLE.out]; exact H8.out.own, H8.out.below⟩
        · have h9' : (E8 == 0) = false := by simpa using h9
          have HE9 : Hid (rcsR S L col gap ⟨rx, ry, rw_, rh⟩ = [] ∧ rcsE S L col gap ⟨rx, ry, rw_, rh⟩ = E8) := Go.Lib.hid ⟨by rw [HEND2.out, if_neg (by rw [HEND1.out]; exact h9)], HEND1.out⟩
          go_wp2
          refine region_ext mixed (by kernel_rfl) ?_
          (repeat (go_big_quiet_step (fail)))
          refine wpQuiet_nil ?_
          intro w9 hb9
          go_wp2
          rw [HE9.out.1, HE9.out.2]
          go_ret2
          exact RctE.none (H8.out.below.trans (hb9.mono H8.out.below.size))
      · have hll : ¬ ((N : Int) = (M : Int)) := by omega
        have hx := HE.out
        rw [if_pos h0, if_neg hlen] at hx
        have HEND : Hid (rcsR S L col gap ⟨rx, ry, rw_, rh⟩ = [] ∧ rcsE S L col gap ⟨rx, ry, rw_, rh⟩ = 110) := Go.Lib.hid ⟨by rw [HR.out, if_neg (by rw [hx]; decide)], hx⟩
        subst h0
        clear HP HWO HE HR hx HOK hlen
        go_wp2
        rw [HEND.out.1, HEND.out.2]
        go_ret2
        exact RctE.none HB1.out
    · have h0' : (E == 0) = false := by simpa using h0
      have hx := HE.out
      rw [if_neg h0] at hx
      have HEND : Hid (rcsR S L col gap ⟨rx, ry, rw_, rh⟩ = [] ∧ rcsE S L col gap ⟨rx, ry, rw_, rh⟩ = E) := Go.Lib.hid ⟨by rw [HR.out, if_neg (by rw [hx]; exact h0)], hx⟩
      clear HP HWO HE HR hx HOK
      go_wp2
      rw [HEND.out.1, HEND.out.2]
      go_ret2
      exact RctE.none HB1.out
end Go.Proofs.Ytjippgflempdmaa

/- Layer 11: what the document's examples say (alive). Printed by gen_alive.py. -/
namespace Go.Proofs.Ytjippgflempdmaa
set_option linter.unusedVariables false
set_option linter.unusedSimpArgs false
set_option maxRecDepth 100000
open Go.RowKit
attribute [local go_sem] max_fold min_fold

theorem At.on9 {w w' : World} {A : Option Addr} {xs : List Value} (h : At w.heap.size w A xs) (hb : Below w.heap.size w w') : At w'.heap.size w' A xs := (h.below hb).mono hb.size
theorem At.new9 (w : World) (xs : List Value) (t : TypeId) : At (w.alloc (.cells xs.toArray t)).heap.size (w.alloc (.cells xs.toArray t)) (some ⟨w.heap.size, 0, none⟩) xs := At.block (t := t) (alloc_at _ _)
theorem At.new9e (w : World) (xs : List Value) (t : TypeId) (n : Nat) (h : w.heap.size = n) : At (w.alloc (.cells xs.toArray t)).heap.size (w.alloc (.cells xs.toArray t)) (some ⟨n, 0, none⟩) xs := h ▸ At.new9 w xs t
def Lit9 (xs : List Value) (n : Nat) (err : Int) (w : World) (e : Ending) (w' : World) : Prop := ∃ A c, e = .returned (.tuple #[.slice A n c, .int .i64 err]) ∧ At w'.heap.size w' A xs ∧ Below w.heap.size w w'
section
variable {S : List Int} {e : Int} {k m : Nat} {A A2 : Option Addr} {c c2 : Nat} {w : World}
theorem Cells_lit {r : List T2} (col : Int) (hr : cellsL S col = r) (he : cellE S col = e) (hk : S.length = k) (hm : r.length = m) (hA : At w.heap.size w A (ints S)) (hk2 : k ≤ 100000) :
    Calls Try.prog 9 #[.slice A k c, .int .i64 col] w (Lit9 (t2s r) m e w) := by
  subst hr he hk hm
  exact (Cells_any _ A c S col w hA (Nat.le_refl _) (by omega)).mono fun _ _ ⟨A, c, h1, h2, h3⟩ => ⟨A, c, h1, At.of_own h2, h3⟩
theorem Widths_lit {D r : List Int} {k2 : Nat} (col gap : Int) (hr : widR S D col gap = r) (he : widE S D col gap = e) (hk : S.length = k) (hk' : D.length = k2) (hm : r.length = m) (hA : At w.heap.size w A (ints S)) (hA2 : At w.heap.size w A2 (ints D)) (hk2 : k ≤ 100000) (hk3 : k2 ≤ 100000) :
    Calls Try.prog 10 #[.slice A k c, .slice A2 k2 c2, .int .i64 col, .int .i64 gap] w (Lit9 (ints r) m e w) := by
  subst hr he hk hk' hm
  exact (Widths_any _ A A2 c c2 S D col gap w hA hA2 (Nat.le_refl _) (by omega) (by omega)).mono fun _ _ ⟨A, c, h1, h2, h3⟩ => ⟨A, c, h1, At.of_own h2, h3⟩
theorem Heights_lit {D r : List Int} {k2 : Nat} (col : Int) (hr : hgtR S D col = r) (he : hgtE S D col = e) (hk : S.length = k) (hk' : D.length = k2) (hm : r.length = m) (hA : At w.heap.size w A (ints S)) (hA2 : At w.heap.size w A2 (ints D)) (hk2 : k ≤ 100000) (hk3 : k2 ≤ 100000) :
    Calls Try.prog 12 #[.slice A k c, .slice A2 k2 c2, .int .i64 col] w (Lit9 (ints r) m e w) := by
  subst hr he hk hk' hm
  exact (Heights_any _ A A2 c c2 S D col w hA hA2 (Nat.le_refl _) (by omega) (by omega)).mono fun _ _ ⟨A, c, h1, h2, h3⟩ => ⟨A, c, h1, At.of_own h2, h3⟩
theorem Need_lit {L : List T2} {r : T2} {k2 : Nat} (col gap : Int) (hr : ndR S L col gap = r) (he : ndE S L col gap = e) (hk : S.length = k) (hk' : L.length = k2) (hA : At w.heap.size w A (ints S)) (hA2 : At w.heap.size w A2 (t2s L)) (hk2 : k ≤ 100000) (hk3 : k2 ≤ 100000) :
    Calls Try.prog 11 #[.slice A k c, .slice A2 k2 c2, .int .i64 col, .int .i64 gap] w (NeedP r e w) := by
  subst hr he hk hk'
  exact Need_any _ A A2 c c2 S L col gap w hA hA2 (Nat.le_refl _) (by omega) (by omega)
theorem Rects_lit {L : List T2} {r : List Geo.Rc} {k2 : Nat} (col gap x y a b : Int) (hr : rcsR S L col gap ⟨x, y, a, b⟩ = r) (he : rcsE S L col gap ⟨x, y, a, b⟩ = e) (hk : S.length = k) (hk' : L.length = k2) (hm : r.length = m) (hA : At w.heap.size w A (ints S)) (hA2 : At w.heap.size w A2 (t2s L)) (hk2 : k ≤ 100000) (hk3 : k2 ≤ 100000) :
    Calls Try.prog 13 #[.slice A k c, .slice A2 k2 c2, .int .i64 col, .int .i64 gap, .agg #[.int .i64 x, .int .i64 y, .int .i64 a, .int .i64 b]] w (Lit9 (Geo.rcells r) m e w) := by
  subst hr he hk hk' hm
  exact (Rects_any _ A A2 c c2 S L col gap x y a b w hA hA2 (Nat.le_refl _) (by omega) (by omega)).mono fun _ _ ⟨A, c, h1, h2, h3⟩ => ⟨A, c, h1, At.of_own h2, h3⟩
end
theorem at_none (w : World) : At w.heap.size w none (ints []) := fun h => absurd h (by simp [ints])
theorem At.pair2 {B : Nat} {w : World} {A : Option Addr} {l : List T2} (h : At B w A (t2s l)) {k : Nat} (hk : k < l.length) : ∃ g o, A = some ⟨g, o, none⟩ ∧ g < B ∧ w.cell? ⟨g, o + k * 2, none⟩ = some (.int .i64 l[k].p) ∧ w.cell? ⟨g, o + k * 2 + 1, none⟩ = some (.int .i64 l[k].q) := h.t2 hk
theorem At.rc {B : Nat} {w : World} {g o : Nat} {l : List Geo.Rc} (h : At B w (some ⟨g, o, none⟩) (Geo.rcells l)) {k : Nat} (hk : k < l.length) : w.cell? ⟨g, o + k * 4, none⟩ = some (.int .i64 l[k].x) ∧ w.cell? ⟨g, o + (k * 4 + 1), none⟩ = some (.int .i64 l[k].y) ∧ w.cell? ⟨g, o + (k * 4 + 2), none⟩ = some (.int .i64 l[k].w) ∧ w.cell? ⟨g, o + (k * 4 + 3), none⟩ = some (.int .i64 l[k].h) := by
  obtain ⟨e0, e1, e2, e3⟩ := Geo.rcells_at l k hk
  obtain ⟨g', o', hA, _, hc⟩ := h (by rw [Geo.rcells_len]; omega)
  injection hA with hA
  injection hA with h1 h2
  subst h1 h2
  exact ⟨hc _ _ e0, hc _ _ e1, hc _ _ e2, hc _ _ e3⟩
theorem At.rchead {B : Nat} {w : World} {A : Option Addr} {l : List Geo.Rc} (h : At B w A (Geo.rcells l)) (hk : 0 < l.length) : ∃ g o, A = some ⟨g, o, none⟩ ∧ g < B := by
  obtain ⟨g, o, h1, h2, _⟩ := h (by rw [Geo.rcells_len]; omega)
  exact ⟨g, o, h1, h2⟩
theorem At.raw {B : Nat} {w : World} {g o : Nat} {xs : List Value} (h : At B w (some ⟨g, o, none⟩) xs) {j : Nat} {v : Value} (hj : xs[j]? = some v) : g < B ∧ w.cell? ⟨g, o + j, none⟩ = some v := by
  obtain ⟨g', o', hA, hlt, hc⟩ := h (by have := (List.getElem?_eq_some_iff.1 hj).1; omega)
  injection hA with hA
  injection hA with h1 h2
  subst h1 h2
  exact ⟨hlt, hc j v hj⟩

set_option maxRecDepth 100000 in
set_option maxHeartbeats 1000000 in
theorem alive_any (w : World) : Calls Try.prog 8 #[] w fun e w' => e = .returned (.bool true) ∧ Below w.heap.size w w' := by
  go_enter Try.func8, Try.ntmps8
  have b0 := Below.refl w.heap.size w
  have h1 : Below w.heap.size w (w.alloc (.cells #[.int .i64 1, .int .i64 2, .int .i64 1] 3)) := (Below.refl _ _).alloc (Nat.le_refl _) _
  have a1 : At (w.alloc (.cells #[.int .i64 1, .int .i64 2, .int .i64 1] 3)).heap.size (w.alloc (.cells #[.int .i64 1, .int .i64 2, .int .i64 1] 3)) (some ⟨w.heap.size, 0, none⟩) (ints [1, 2, 1]) := At.new9e w (ints [1, 2, 1]) 3 _ (by simp)
  have c1 := b0.trans (h1.mono b0.size)
  clear b0 h1
  go_wp2_with fail
  refine (Cells_lit (S := [1, 2, 1]) (r := [⟨0, 0⟩, ⟨1, 0⟩, ⟨0, 1⟩]) (e := 0) (m := 3) 3 (by decide +kernel) (by decide +kernel) rfl rfl a1 (by decide)).mono ?_
  rintro e w2 ⟨A1, d1, rfl, x1, h2⟩
  replace a1 := a1.on9 h2
  have c2 := c1.trans (h2.mono c1.size)
  clear c1 h2
  clear a1
  have h3 : Below w2.heap.size w2 (w2.alloc (.cells #[.int .i64 1, .int .i64 1, .int .i64 2] 3)) := (Below.refl _ _).alloc (Nat.le_refl _) _
  have a1 : At (w2.alloc (.cells #[.int .i64 1, .int .i64 1, .int .i64 2] 3)).heap.size (w2.alloc (.cells #[.int .i64 1, .int .i64 1, .int .i64 2] 3)) (some ⟨w2.heap.size, 0, none⟩) (ints [1, 1, 2]) := At.new9e w2 (ints [1, 1, 2]) 3 _ (by simp)
  replace x1 := x1.on9 h3
  have c3 := c2.trans (h3.mono c2.size)
  clear c2 h3
  have h4 : Below (w2.alloc (.cells #[.int .i64 1, .int .i64 1, .int .i64 2] 3)).heap.size (w2.alloc (.cells #[.int .i64 1, .int .i64 1, .int .i64 2] 3)) ((w2.alloc (.cells #[.int .i64 1, .int .i64 1, .int .i64 2] 3)).alloc (.cells #[.int .i64 3, .int .i64 5, .int .i64 9] 3)) := (Below.refl _ _).alloc (Nat.le_refl _) _
  have a2 : At ((w2.alloc (.cells #[.int .i64 1, .int .i64 1, .int .i64 2] 3)).alloc (.cells #[.int .i64 3, .int .i64 5, .int .i64 9] 3)).heap.size ((w2.alloc (.cells #[.int .i64 1, .int .i64 1, .int .i64 2] 3)).alloc (.cells #[.int .i64 3, .int .i64 5, .int .i64 9] 3)) (some ⟨w2.heap.size + 1, 0, none⟩) (ints [3, 5, 9]) := At.new9e (w2.alloc (.cells #[.int .i64 1, .int .i64 1, .int .i64 2] 3)) (ints [3, 5, 9]) 3 _ (by simp)
  replace x1 := x1.on9 h4
  replace a1 := a1.on9 h4
  have c4 := c3.trans (h4.mono c3.size)
  clear c3 h4
  go_wp2_with fail
  refine (Widths_lit (S := [1, 1, 2]) (D := [3, 5, 9]) (r := [3, 6]) (e := 0) (m := 2) 2 0 (by decide +kernel) (by decide +kernel) rfl rfl rfl a1 a2 (by decide) (by decide)).mono ?_
  rintro e w5 ⟨A3, d3, rfl, x3, h5⟩
  replace x1 := x1.on9 h5
  replace a1 := a1.on9 h5
  replace a2 := a2.on9 h5
  have c5 := c4.trans (h5.mono c4.size)
  clear c4 h5
  clear a1 a2
  have h6 : Below w5.heap.size w5 (w5.alloc (.cells #[.int .i64 1, .int .i64 1, .int .i64 2] 3)) := (Below.refl _ _).alloc (Nat.le_refl _) _
  have a1 : At (w5.alloc (.cells #[.int .i64 1, .int .i64 1, .int .i64 2] 3)).heap.size (w5.alloc (.cells #[.int .i64 1, .int .i64 1, .int .i64 2] 3)) (some ⟨w5.heap.size, 0, none⟩) (ints [1, 1, 2]) := At.new9e w5 (ints [1, 1, 2]) 3 _ (by simp)
  replace x1 := x1.on9 h6
  replace x3 := x3.on9 h6
  have c6 := c5.trans (h6.mono c5.size)
  clear c5 h6
  have h7 : Below (w5.alloc (.cells #[.int .i64 1, .int .i64 1, .int .i64 2] 3)).heap.size (w5.alloc (.cells #[.int .i64 1, .int .i64 1, .int .i64 2] 3)) ((w5.alloc (.cells #[.int .i64 1, .int .i64 1, .int .i64 2] 3)).alloc (.cells #[.int .i64 3, .int .i64 5, .int .i64 9] 3)) := (Below.refl _ _).alloc (Nat.le_refl _) _
  have a2 : At ((w5.alloc (.cells #[.int .i64 1, .int .i64 1, .int .i64 2] 3)).alloc (.cells #[.int .i64 3, .int .i64 5, .int .i64 9] 3)).heap.size ((w5.alloc (.cells #[.int .i64 1, .int .i64 1, .int .i64 2] 3)).alloc (.cells #[.int .i64 3, .int .i64 5, .int .i64 9] 3)) (some ⟨w5.heap.size + 1, 0, none⟩) (ints [3, 5, 9]) := At.new9e (w5.alloc (.cells #[.int .i64 1, .int .i64 1, .int .i64 2] 3)) (ints [3, 5, 9]) 3 _ (by simp)
  replace x1 := x1.on9 h7
  replace x3 := x3.on9 h7
  replace a1 := a1.on9 h7
  have c7 := c6.trans (h7.mono c6.size)
  clear c6 h7
  go_wp2_with fail
  refine (Heights_lit (S := [1, 1, 2]) (D := [3, 5, 9]) (r := [5, 9]) (e := 0) (m := 2) 2 (by decide +kernel) (by decide +kernel) rfl rfl rfl a1 a2 (by decide) (by decide)).mono ?_
  rintro e w8 ⟨A5, d5, rfl, x5, h8⟩
  replace x1 := x1.on9 h8
  replace x3 := x3.on9 h8
  replace a1 := a1.on9 h8
  replace a2 := a2.on9 h8
  have c8 := c7.trans (h8.mono c7.size)
  clear c7 h8
  clear a1 a2
  have h9 : Below w8.heap.size w8 (w8.alloc (.cells #[.int .i64 3, .int .i64 1, .int .i64 5, .int .i64 2, .int .i64 9, .int .i64 1] 31)) := (Below.refl _ _).alloc (Nat.le_refl _) _
  have a7 : At (w8.alloc (.cells #[.int .i64 3, .int .i64 1, .int .i64 5, .int .i64 2, .int .i64 9, .int .i64 1] 31)).heap.size (w8.alloc (.cells #[.int .i64 3, .int .i64 1, .int .i64 5, .int .i64 2, .int .i64 9, .int .i64 1] 31)) (some ⟨w8.heap.size, 0, none⟩) (t2s [⟨3, 1⟩, ⟨5, 2⟩, ⟨9, 1⟩]) := At.new9e w8 (t2s [⟨3, 1⟩, ⟨5, 2⟩, ⟨9, 1⟩]) 31 _ (by simp)
  replace x1 := x1.on9 h9
  replace x3 := x3.on9 h9
  replace x5 := x5.on9 h9
  have c9 := c8.trans (h9.mono c8.size)
  clear c8 h9
  have h10 : Below (w8.alloc (.cells #[.int .i64 3, .int .i64 1, .int .i64 5, .int .i64 2, .int .i64 9, .int .i64 1] 31)).heap.size (w8.alloc (.cells #[.int .i64 3, .int .i64 1, .int .i64 5, .int .i64 2, .int .i64 9, .int .i64 1] 31)) ((w8.alloc (.cells #[.int .i64 3, .int .i64 1, .int .i64 5, .int .i64 2, .int .i64 9, .int .i64 1] 31)).alloc (.cells #[.int .i64 1, .int .i64 1, .int .i64 2] 3)) := (Below.refl _ _).alloc (Nat.le_refl _) _
  have a1 : At ((w8.alloc (.cells #[.int .i64 3, .int .i64 1, .int .i64 5, .int .i64 2, .int .i64 9, .int .i64 1] 31)).alloc (.cells #[.int .i64 1, .int .i64 1, .int .i64 2] 3)).heap.size ((w8.alloc (.cells #[.int .i64 3, .int .i64 1, .int .i64 5, .int .i64 2, .int .i64 9, .int .i64 1] 31)).alloc (.cells #[.int .i64 1, .int .i64 1, .int .i64 2] 3)) (some ⟨w8.heap.size + 1, 0, none⟩) (ints [1, 1, 2]) := At.new9e (w8.alloc (.cells #[.int .i64 3, .int .i64 1, .int .i64 5, .int .i64 2, .int .i64 9, .int .i64 1] 31)) (ints [1, 1, 2]) 3 _ (by simp)
  replace x1 := x1.on9 h10
  replace x3 := x3.on9 h10
  replace x5 := x5.on9 h10
  replace a7 := a7.on9 h10
  have c10 := c9.trans (h10.mono c9.size)
  clear c9 h10
  go_wp2_with fail
  refine (Need_lit (S := [1, 1, 2]) (L := [⟨3, 1⟩, ⟨5, 2⟩, ⟨9, 1⟩]) (r := ⟨9, 4⟩) (e := 0) 2 1 (by decide +kernel) (by decide +kernel) rfl rfl a1 a7 (by decide) (by decide)).mono ?_
  rintro e w11 ⟨rfl, h11⟩
  replace x1 := x1.on9 h11
  replace x3 := x3.on9 h11
  replace x5 := x5.on9 h11
  replace a7 := a7.on9 h11
  replace a1 := a1.on9 h11
  have c11 := c10.trans (h11.mono c10.size)
  clear c10 h11
  clear a1
  have h12 : Below w11.heap.size w11 (w11.alloc (.cells #[.int .i64 9, .int .i64 4] 31)) := (Below.refl _ _).alloc (Nat.le_refl _) _
  have a8 : At (w11.alloc (.cells #[.int .i64 9, .int .i64 4] 31)).heap.size (w11.alloc (.cells #[.int .i64 9, .int .i64 4] 31)) (some ⟨w11.heap.size, 0, none⟩) ([.int .i64 9, .int .i64 4]) := At.new9e w11 ([.int .i64 9, .int .i64 4]) 31 _ (by simp)
  replace x1 := x1.on9 h12
  replace x3 := x3.on9 h12
  replace x5 := x5.on9 h12
  replace a7 := a7.on9 h12
  have c12 := c11.trans (h12.mono c11.size)
  clear c11 h12
  have h13 : Below (w11.alloc (.cells #[.int .i64 9, .int .i64 4] 31)).heap.size (w11.alloc (.cells #[.int .i64 9, .int .i64 4] 31)) ((w11.alloc (.cells #[.int .i64 9, .int .i64 4] 31)).alloc (.cells #[.int .i64 1, .int .i64 1, .int .i64 2] 3)) := (Below.refl _ _).alloc (Nat.le_refl _) _
  have a1 : At ((w11.alloc (.cells #[.int .i64 9, .int .i64 4] 31)).alloc (.cells #[.int .i64 1, .int .i64 1, .int .i64 2] 3)).heap.size ((w11.alloc (.cells #[.int .i64 9, .int .i64 4] 31)).alloc (.cells #[.int .i64 1, .int .i64 1, .int .i64 2] 3)) (some ⟨w11.heap.size + 1, 0, none⟩) (ints [1, 1, 2]) := At.new9e (w11.alloc (.cells #[.int .i64 9, .int .i64 4] 31)) (ints [1, 1, 2]) 3 _ (by simp)
  replace x1 := x1.on9 h13
  replace x3 := x3.on9 h13
  replace x5 := x5.on9 h13
  replace a7 := a7.on9 h13
  replace a8 := a8.on9 h13
  have c13 := c12.trans (h13.mono c12.size)
  clear c12 h13
  go_wp2_with fail
  refine (Rects_lit (S := [1, 1, 2]) (L := [⟨3, 1⟩, ⟨5, 2⟩, ⟨9, 1⟩]) (r := [⟨0, 0, 5, 3⟩, ⟨6, 0, 7, 3⟩, ⟨0, 4, 13, 2⟩]) (e := 0) (m := 3) 2 1 0 0 13 6 (by decide +kernel) (by decide +kernel) rfl rfl rfl a1 a7 (by decide) (by decide)).mono ?_
  rintro e w14 ⟨A10, d10, rfl, x10, h14⟩
  replace x1 := x1.on9 h14
  replace x3 := x3.on9 h14
  replace x5 := x5.on9 h14
  replace a7 := a7.on9 h14
  replace a8 := a8.on9 h14
  replace a1 := a1.on9 h14
  have c14 := c13.trans (h14.mono c13.size)
  clear c13 h14
  clear a1 a7
  have h15 : Below w14.heap.size w14 (w14.alloc (.cells #[.int .i64 1] 3)) := (Below.refl _ _).alloc (Nat.le_refl _) _
  have a1 : At (w14.alloc (.cells #[.int .i64 1] 3)).heap.size (w14.alloc (.cells #[.int .i64 1] 3)) (some ⟨w14.heap.size, 0, none⟩) (ints [1]) := At.new9e w14 (ints [1]) 3 _ (by simp)
  replace x1 := x1.on9 h15
  replace x3 := x3.on9 h15
  replace x5 := x5.on9 h15
  replace a8 := a8.on9 h15
  replace x10 := x10.on9 h15
  have c15 := c14.trans (h15.mono c14.size)
  clear c14 h15
  go_wp2_with fail
  refine (Widths_lit (S := [1]) (D := []) (r := []) (e := 110) (m := 0) 1 0 (by decide +kernel) (by decide +kernel) rfl rfl rfl a1 (at_none _) (by decide) (by decide)).mono ?_
  rintro e w16 ⟨A12, d12, rfl, _, h16⟩
  replace x1 := x1.on9 h16
  replace x3 := x3.on9 h16
  replace x5 := x5.on9 h16
  replace a8 := a8.on9 h16
  replace x10 := x10.on9 h16
  replace a1 := a1.on9 h16
  have c16 := c15.trans (h16.mono c15.size)
  clear c15 h16
  clear a1
  obtain ⟨g1, o1, rfl, l1, u0, u1⟩ := x1.pair2 (k := 2) (by decide)
  obtain ⟨g3, o3, rfl, l3, u2⟩ := x3.int (k := 0) (by decide)
  have u3 := (x3.num2 (k := 1) (by decide)).2
  obtain ⟨g5, o5, rfl, l5, u4⟩ := x5.int (k := 0) (by decide)
  have u5 := (x5.num2 (k := 1) (by decide)).2
  obtain ⟨g10, o10, rfl, l10⟩ := x10.rchead (by decide)
  obtain ⟨v0, v1, v2, v3⟩ := x10.rc (k := 1) (by decide)
  obtain ⟨_, v5, _, _⟩ := x10.rc (k := 2) (by decide)
  simp only [List.getElem_cons_zero, List.getElem_cons_succ, List.getD_cons_zero, List.getD_cons_succ] at u0 u1 u2 u3 u4 u5 v0 v1 v2 v3 v5
  obtain ⟨l8, y0⟩ := a8.raw (j := 0) rfl
  obtain ⟨_, y1⟩ := a8.raw (j := 1) rfl
  have u0' : w16.cell? ⟨g1, o1 + 4, none⟩ = some (.int .i64 0) := u0
  have u1' : w16.cell? ⟨g1, o1 + 5, none⟩ = some (.int .i64 1) := u1
  have v0' : w16.cell? ⟨g10, o10 + 4, none⟩ = some (.int .i64 6) := v0
  have v1' : w16.cell? ⟨g10, o10 + 5, none⟩ = some (.int .i64 0) := v1
  have v2' : w16.cell? ⟨g10, o10 + 6, none⟩ = some (.int .i64 7) := v2
  have v3' : w16.cell? ⟨g10, o10 + 7, none⟩ = some (.int .i64 3) := v3
  have v5' : w16.cell? ⟨g10, o10 + 9, none⟩ = some (.int .i64 4) := v5
  have y0' : w16.cell? ⟨w11.heap.size, 0, none⟩ = some (.int .i64 9) := y0
  have y1' : w16.cell? ⟨w11.heap.size, 1, none⟩ = some (.int .i64 4) := y1
  have u2' : w16.cell? ⟨g3, o3, none⟩ = some (.int .i64 3) := u2
  have u3' : w16.cell? ⟨g3, o3 + 1, none⟩ = some (.int .i64 6) := u3
  have u4' : w16.cell? ⟨g5, o5, none⟩ = some (.int .i64 5) := u4
  have u5' : w16.cell? ⟨g5, o5 + 1, none⟩ = some (.int .i64 9) := u5
  clear x1 x3 x5 x10 a8 u0 u1 u2 u3 u4 u5 v0 v1 v2 v3 v5 y0 y1
  go_wp2
  go_ret
  exact ⟨rfl, c16⟩
end Go.Proofs.Ytjippgflempdmaa

/- Layer 11: the statements' own helpers: ints, sizes, alike, points, kept.., much, wide, together. Printed by gen_help.py. -/
namespace Go.Proofs.Ytjippgflempdmaa
set_option linter.unusedVariables false
set_option linter.unusedSimpArgs false
set_option maxRecDepth 100000
open Go.RowKit
attribute [local go_sem] max_fold min_fold

theorem own_cap9 {w : World} {base : Nat} {e : TypeId} {size n m c : Nat} {A : Option Addr} {xs : List Value} (h : w.ownsRow base e size (.slice A n c) m xs) : n ≤ c ∧ c ≤ maxLen := by
  rcases h.2 with ⟨hv, _⟩ | ⟨g, cap, cur, hv, hb, hh, hn', hcap, hcs, ht⟩
  · injection hv with h1 h2 h3
    subst h2
    subst h3
    exact ⟨Nat.le_refl _, Nat.zero_le _⟩
  · injection hv with h1 h2 h3
    subst h2
    subst h3
    exact ⟨by omega, by omega⟩
theorem own_len9 {w : World} {base : Nat} {e : TypeId} {size n m : Nat} {v : Value} {xs : List Value} (h : w.ownsRow base e size v n xs) (hn : n = m) : w.ownsRow base e size v m xs := hn ▸ h
theorem own_head9 {w : World} {base : Nat} {e : TypeId} {size n c : Nat} {A : Option Addr} {xs : List Value} (h : w.ownsRow base e size (.slice A n c) n xs) (hn : 0 < n) : ∃ g, A = some ⟨g, 0, none⟩ := by
  obtain ⟨g, h1, _⟩ := own_pos h hn
  exact ⟨g, h1⟩
theorem cell_on9 {w w' : World} (h : Below w.heap.size w w') {p : Addr} {v : Value} (hc : w.cell? p = some v) : w'.cell? p = some v := by
  rw [h.cell (p := p) (World.block_lt_of_cell? _ _ hc)]
  exact hc
theorem run_neq_pt (w : World) (x y : Int) : (binOp .neq 40 (.agg #[.int .i64 x, .int .i64 y]) (.agg #[.int .i64 x, .int .i64 y])).run Try.prog w = .ok (.bool false) w := by
  simp [go_sem]
theorem run_neq_sz (w : World) (x y : Int) : (binOp .neq 31 (.agg #[.int .i64 x, .int .i64 y]) (.agg #[.int .i64 x, .int .i64 y])).run Try.prog w = .ok (.bool false) w := by
  simp [go_sem]
attribute [local go_sem 2000] run_neq_pt run_neq_sz
def m77 : T2 := ⟨777, 0⟩
theorem info_size : (Try.prog.info? 31).map (fun i => (i.zero, i.size, i.bytes)) = some (some (.agg #[.int .i64 0, .int .i64 0]), 2, 16) := by kernel_rfl
section
variable {ops : Array Oper} {rest : List Oper} {o : Oper} {a : Act} {Q : Exit → Act → World → Prop} {w : World}
theorem append_size (hgd : o.guard = none) (s x : Operand) (ho : o.op = .call { callee := .builtin .append, args := #[s, x], argTypes := #[34, 34] }) (base : Nat) (v : Value) (l : List T2) (t : T2) (g : Nat)
    (hs : a.eval s = v) (hx : a.eval x = .slice (some ⟨g, 0, none⟩) 1 1) (hown : w.ownsRow base 31 2 v l.length (t2s l)) (h0 : w.cell? ⟨g, 0, none⟩ = some (.int .i64 t.p)) (h1 : w.cell? ⟨g, 1, none⟩ = some (.int .i64 t.q)) (hn : l.length ≤ 1000000) (hbase : base ≤ w.heap.size)
    (h : ∀ v' w', w'.ownsRow base 31 2 v' (l ++ [t]).length (t2s (l ++ [t])) → w.grownBy w' v.ownBlock → wpList Try.prog ops Q rest (a.put o.dst v') w') : wpList Try.prog ops Q (o :: rest) a w := by
  obtain ⟨i0, hi, hz0, hz1, hz2⟩ := info_parts info_size
  refine wpList_append_own_at w hgd s x 34 ho base 31 i0 _ 2 16 Try.underlying34 hi hz0 hz1 hz2 rfl (by decide) v l.length (t2s l) hs hown ⟨g, 0, none⟩ 1 1 (t2s [t]) hx rfl (fun j u hj => ?_) (t2s_one _) (by unfold maxLen; omega) (by omega) hbase (fun v' w' h4 h5 _ h6 => ?_)
  · match j, hj with
    | 0, hj => simp [t2s] at hj; subst hj; simpa [Addr.add] using h0
    | 1, hj => simp [t2s] at hj; subst hj; simpa [Addr.add] using h1
    | j + 2, hj => simp [t2s] at hj
  · exact h v' w' (by rw [t2s_append, List.length_append]; exact h4) h5
end


set_option maxRecDepth 100000 in
set_option maxHeartbeats 1000000 in
theorem ints_any (B : Nat) (A : Option Addr) (c : Nat) (L : List Int) (w : World) (hA : At B w A (ints L)) (hl : L.length ≤ 3000) (hnil : A = none → L.length = 0 ∧ c = 0) :
    Calls Try.prog 15 #[.slice A L.length c] w fun e w' => ∃ g c', e = .returned (.slice (some ⟨g, 0, none⟩) L.length c') ∧ L.length + 1 ≤ c' ∧ c' ≤ maxLen ∧ w'.ownsRow w.heap.size 3 1 (.slice (some ⟨g, 0, none⟩) (L.length + 1) c') (L.length + 1) (ints (L ++ [777])) ∧ Below w.heap.size w w' := by
  obtain ⟨i0, hi, hz0, hz1, hz2⟩ := info_parts info_int
  go_enter Try.func15, Try.ntmps15
  go_wp2_with (first | (at_builtin; refine append_many Try.underlying23 hi hz0 hz1 hz2 rfl (by decide) rfl (.tmp 4) (.tmp 5) rfl w.heap.size (.slice none 0 0) 0 [] A L.length c B (ints L) rfl rfl hnil (World.ownsRow_nil _ _ _ _) hA (by simp [ints]) (ints_one L) ?_ ?_ (Nat.le_refl _) ?_))
  · unfold maxLen; omega
  · omega
  intro v2 w2 hown2 hg2
  have hb2 := (Below.refl w.heap.size w).grown hg2 (Nat.le_refl _) (fun k hk => by cases hk)
  have hs2 := hb2.size
  replace hown2 : w2.ownsRow w.heap.size 3 1 v2 L.length (ints L) := by simpa using hown2
  go_wp2_with (first | (at_builtin; refine append_num rfl (.tmp 7) (.tmp 8) rfl w.heap.size _ L 777 w2.heap.size rfl rfl (hown2.alloc _) (by simp [go_sem]) ?_ ?_ ?_))
  · omega
  · first | omega | (simp; omega)
  intro v3 w3 hown3 hg3 _
  have hb3 := (hb2.alloc hs2 (.cells #[.int .i64 777] 3)).grown hg3 (by simp; omega) (own_ge hown2)
  have hown3' : w3.ownsRow w.heap.size 3 1 v3 (L.length + 1) (ints (L ++ [777])) := own_len9 hown3 (by simp)
  obtain ⟨A3, c3, rfl⟩ := own_shape hown3'
  obtain ⟨g, rfl⟩ := own_head9 hown3' (by omega)
  obtain ⟨hc1, hc2⟩ := own_cap9 hown3'
  have hci : (L.length : Int) ≤ (c3 : Int) := by omega
  clear hown3 hg3 hown2 hg2
  go_wp2
  go_ret
  exact ⟨g, c3, rfl, hc1, hc2, hown3', hb3⟩


set_option maxRecDepth 100000 in
set_option maxHeartbeats 1000000 in
theorem sizes_any (B : Nat) (A : Option Addr) (c : Nat) (L : List T2) (w : World) (hA : At B w A (t2s L)) (hl : L.length ≤ 3000) (hnil : A = none → L.length = 0 ∧ c = 0) :
    Calls Try.prog 22 #[.slice A L.length c] w fun e w' => ∃ g c', e = .returned (.slice (some ⟨g, 0, none⟩) L.length c') ∧ L.length + 1 ≤ c' ∧ c' ≤ maxLen ∧ w'.ownsRow w.heap.size 31 2 (.slice (some ⟨g, 0, none⟩) (L.length + 1) c') (L.length + 1) (t2s (L ++ [m77])) ∧ Below w.heap.size w w' := by
  obtain ⟨i0, hi, hz0, hz1, hz2⟩ := info_parts info_size
  go_enter Try.func22, Try.ntmps22
  go_wp2_with (first | (at_builtin; refine append_many Try.underlying34 hi hz0 hz1 hz2 rfl (by decide) rfl (.tmp 4) (.tmp 5) rfl w.heap.size (.slice none 0 0) 0 [] A L.length c B (t2s L) rfl rfl hnil (World.ownsRow_nil _ _ _ _) hA (by rw [t2s_len]) (t2s_one L) ?_ ?_ (Nat.le_refl _) ?_))
  · unfold maxLen; omega
  · omega
  intro v2 w2 hown2 hg2
  have hb2 := (Below.refl w.heap.size w).grown hg2 (Nat.le_refl _) (fun k hk => by cases hk)
  have hs2 := hb2.size
  replace hown2 : w2.ownsRow w.heap.size 31 2 v2 L.length (t2s L) := by simpa using hown2
  go_wp2_with (first | (at_builtin; refine append_size rfl (.tmp 7) (.tmp 9) rfl w.heap.size _ L m77 w2.heap.size rfl rfl (hown2.alloc _) (by simp [go_sem, m77]) (by simp [go_sem, m77]) ?_ ?_ ?_))
  · omega
  · first | omega | (simp; omega)
  intro v3 w3 hown3 hg3 
  have hb3 := (hb2.alloc hs2 (.cells #[.int .i64 777, .int .i64 0] 31)).grown hg3 (by simp; omega) (own_ge hown2)
  have hown3' : w3.ownsRow w.heap.size 31 2 v3 (L.length + 1) (t2s (L ++ [m77])) := own_len9 hown3 (by simp)
  obtain ⟨A3, c3, rfl⟩ := own_shape hown3'
  obtain ⟨g, rfl⟩ := own_head9 hown3' (by omega)
  obtain ⟨hc1, hc2⟩ := own_cap9 hown3'
  have hci : (L.length : Int) ≤ (c3 : Int) := by omega
  clear hown3 hg3 hown2 hg2
  go_wp2
  go_ret
  exact ⟨g, c3, rfl, hc1, hc2, hown3', hb3⟩


set_option maxRecDepth 100000 in
set_option maxHeartbeats 1000000 in
theorem alike_any (B : Nat) (A A2 : Option Addr) (c c2 : Nat) (l : List Int) (w : World) (hl : l.length ≤ 1000000000000000) (h1 : At B w A (ints l)) (h2 : At B w A2 (ints l)) :
    Calls Try.prog 20 #[.slice A l.length c, .slice A2 l.length c2] w fun e w' => e = .returned (.bool true) ∧ Below w.heap.size w w' := by
  obtain ⟨n, hn⟩ : ∃ n, l.length = n := ⟨_, rfl⟩
  have HN := Go.Lib.hid hn
  rw [hn] at hl ⊢
  clear hn
  go_enter Try.func20, Try.ntmps20
  go_wp2
  go_loopw [5] (fun i wr => ∃ k : Nat, k ≤ n ∧ i = .int .i64 k ∧ Below w.heap.size w wr ∧ At B wr A (ints l) ∧ At B wr A2 (ints l)) (fun i wr => n - (intOf i).toNat)
  case atStart => exact ⟨0, by omega, rfl, Below.refl _ _, h1, h2⟩
  case round =>
    clear h1 h2
    obtain ⟨k, hk, rfl, hbr, h1, h2⟩ := hrel
    by_cases hlt : k < n
    · have hkl : k < l.length := by have := HN.out; omega
      obtain ⟨g, o, rfl, hg, a0⟩ := h1.int hkl
      obtain ⟨g', o', rfl, hg', b0⟩ := h2.int hkl
      have i1 : (k : Int) < (n : Int) := by omega
      have lg := World.block_lt_of_cell? _ _ a0
      have lg' := World.block_lt_of_cell? _ _ b0
      generalize l[k] = x at *
      go_wp2
      refine region_ext mixed (by kernel_rfl) ?_
      repeat (go_big_quiet_step (fail))
      refine wpQuiet_nil ?_
      intro w1 hb1
      go_wp2
      go_roundw
      case rel => exact ⟨k + 1, by omega, by go_num, hbr.trans (hb1.mono hbr.size), h1.ext hb1, h2.ext hb1⟩
      case measure => simp [intOf]; omega
    · have i1 : ¬ (k : Int) < (n : Int) := by omega
      go_wp2
      go_ret
      exact ⟨rfl, hbr⟩


set_option maxRecDepth 100000 in
set_option maxHeartbeats 1000000 in
theorem points_any (B : Nat) (A A2 : Option Addr) (c c2 : Nat) (l : List T2) (w : World) (hl : l.length ≤ 1000000000000000) (h1 : At B w A (t2s l)) (h2 : At B w A2 (t2s l)) :
    Calls Try.prog 19 #[.slice A l.length c, .slice A2 l.length c2] w fun e w' => e = .returned (.bool true) ∧ Below w.heap.size w w' := by
  obtain ⟨n, hn⟩ : ∃ n, l.length = n := ⟨_, rfl⟩
  have HN := Go.Lib.hid hn
  rw [hn] at hl ⊢
  clear hn
  go_enter Try.func19, Try.ntmps19
  go_wp2
  go_loopw [5] (fun i wr => ∃ k : Nat, k ≤ n ∧ i = .int .i64 k ∧ Below w.heap.size w wr ∧ At B wr A (t2s l) ∧ At B wr A2 (t2s l)) (fun i wr => n - (intOf i).toNat)
  case atStart => exact ⟨0, by omega, rfl, Below.refl _ _, h1, h2⟩
  case round =>
    clear h1 h2
    obtain ⟨k, hk, rfl, hbr, h1, h2⟩ := hrel
    by_cases hlt : k < n
    · have hkl : k < l.length := by have := HN.out; omega
      obtain ⟨g, o, rfl, hg, a0, a1⟩ := h1.t2 hkl
      obtain ⟨g', o', rfl, hg', b0, b1⟩ := h2.t2 hkl
      have i1 : (k : Int) < (n : Int) := by omega
      have lg := World.block_lt_of_cell? _ _ a0
      have lg' := World.block_lt_of_cell? _ _ b0
      generalize l[k] = x at *
      go_wp2
      refine region_ext mixed (by kernel_rfl) ?_
      repeat (go_big_quiet_step (fail))
      refine wpQuiet_nil ?_
      intro w1 hb1
      go_wp2
      go_roundw
      case rel => exact ⟨k + 1, by omega, by go_num, hbr.trans (hb1.mono hbr.size), h1.ext hb1, h2.ext hb1⟩
      case measure => simp [intOf]; omega
    · have i1 : ¬ (k : Int) < (n : Int) := by omega
      go_wp2
      go_ret
      exact ⟨rfl, hbr⟩


set_option maxRecDepth 100000 in
set_option maxHeartbeats 2000000 in
theorem keptInts_any (B : Nat) (A A2 : Option Addr) (c c2 : Nat) (L : List Int) (w : World) (h1 : At B w A (ints (L ++ [777]))) (h2 : At B w A2 (ints L)) (hB : B ≤ w.heap.size) (hl : L.length ≤ 3000) (hc : L.length + 1 ≤ c) (hcm : c ≤ maxLen) :
    Calls Try.prog 21 #[.slice A L.length c, .slice A2 L.length c2] w fun e w' => e = .returned (.bool true) ∧ Below w.heap.size w w' := by
  have hla : (L ++ [777]).length = L.length + 1 := by simp
  obtain ⟨g, o, hA, hg, c0⟩ := h1.int (k := L.length) (by omega)
  have he : (L ++ [777])[L.length]'(by omega) = 777 := by simp
  rw [he] at c0
  subst hA
  have h1t : At B w (some ⟨g, o, none⟩) (ints L) := by
    have := h1.take L.length
    rwa [show (ints (L ++ [777])).take L.length = ints L by rw [ints_append, List.take_append_of_le_length (by rw [ints_len]; omega), ← ints_len, List.take_length]] at this
  have HAL := Go.Lib.hid (alike_any B (some ⟨g, o, none⟩) A2 c c2 L w (by omega) h1t h2)
  obtain ⟨n, hn⟩ : ∃ n, L.length = n := ⟨_, rfl⟩
  have hln : n ≤ 3000 := by omega
  have hcn : (n : Int) + 1 ≤ (c : Int) := by omega
  have hcm2 : (c : Int) ≤ 9223372036854775807 := by unfold maxLen at hcm; omega
  rw [hn] at c0 HAL ⊢
  have HC0 := Go.Lib.hid c0
  clear hn c0 he hla hl hc hcm h1 h2 h1t
  go_enter Try.func21, Try.ntmps21
  go_wp2_with fail
  refine HAL.out.mono ?_
  rintro e w1 ⟨rfl, hb1⟩
  have x0 := cell_on9 hb1 HC0.out
  have l0 := World.block_lt_of_cell? _ _ x0
  clear HAL
  go_wp2
  go_ret
  exact ⟨rfl, hb1⟩

set_option maxRecDepth 100000 in
set_option maxHeartbeats 2000000 in
theorem keptSizes_any (B : Nat) (A A2 : Option Addr) (c c2 : Nat) (L : List T2) (w : World) (h1 : At B w A (t2s (L ++ [m77]))) (h2 : At B w A2 (t2s L)) (hB : B ≤ w.heap.size) (hl : L.length ≤ 3000) (hc : L.length + 1 ≤ c) (hcm : c ≤ maxLen) :
    Calls Try.prog 26 #[.slice A L.length c, .slice A2 L.length c2] w fun e w' => e = .returned (.bool true) ∧ Below w.heap.size w w' := by
  have hla : (L ++ [m77]).length = L.length + 1 := by simp
  obtain ⟨g, o, hA, hg, c0, y1⟩ := h1.t2 (k := L.length) (by omega)
  have he : (L ++ [m77])[L.length]'(by omega) = m77 := by simp
  rw [he] at c0 y1
  subst hA
  have c0' : w.cell? ⟨g, o + L.length * 2, none⟩ = some (.int .i64 777) := c0
  obtain ⟨n, hn⟩ : ∃ n, L.length = n := ⟨_, rfl⟩
  have HN := Go.Lib.hid hn
  have hln : n ≤ 3000 := by omega
  have hcn : (n : Int) + 1 ≤ (c : Int) := by omega
  have hcm2 : (c : Int) ≤ 9223372036854775807 := by unfold maxLen at hcm; omega
  rw [hn] at c0' ⊢
  have HC0 := Go.Lib.hid c0'
  clear hn c0 y1 he hla hl c0' hc hcm
  go_enter Try.func26, Try.ntmps26
  go_wp2
  go_loopw [5] (fun i wr => ∃ k : Nat, k ≤ n ∧ i = .int .i64 k ∧ Below w.heap.size w wr) (fun i _ => n - (intOf i).toNat)
  case atStart => exact ⟨0, by omega, rfl, Below.refl _ _⟩
  case round =>
    obtain ⟨k, hk, rfl, hbr⟩ := hrel
    by_cases hlt : k < n
    · have hli : (k : Int) < (n : Int) := by omega
      have hkL : k < L.length := by have := HN.out; omega
      obtain ⟨g2, o2, hA2, hg2, a0, a1⟩ := (h1.below (hbr.mono hB)).t2 (k := k) (by simp; omega)
      obtain ⟨g3, o3, hA3, hg3, b0, b1⟩ := (h2.below (hbr.mono hB)).t2 hkL
      subst hA3
      injection hA2 with e
      injection e with e1 e2
      subst e1
      subst e2
      rw [List.getElem_append_left hkL] at a0 a1
      have l1 := World.block_lt_of_cell? _ _ a0
      have l2 := World.block_lt_of_cell? _ _ b0
      generalize L[k] = t at *
      clear h1 h2
      go_wp2
      refine region_ext mixed (by kernel_rfl) ?_
      repeat (go_big_quiet_step (fail))
      refine wpQuiet_nil ?_
      intro w1 hb1
      go_wp2
      go_roundw
      case rel => exact ⟨k + 1, by omega, by go_num, hbr.trans (hb1.mono hbr.size)⟩
      case measure => simp [intOf]; omega
    · have hlt' : ¬ ((k : Int) < (n : Int)) := by omega
      have x0 := cell_on9 hbr HC0.out
      clear h1 h2
      go_wp2
      go_ret
      exact ⟨rfl, hbr⟩

def muchB (n : Int) : Bool := (decide (60 < n) && decide (n ≤ 1024)) || decide (3000 < n)
set_option maxHeartbeats 1000000 in
theorem much_any (n : Int) (w : World) : Calls Try.prog 14 #[.int .i64 n] w fun e w' => e = .returned (.bool (muchB n)) ∧ w = w' := by
  by_cases h1 : 60 < n
  · by_cases h2 : n ≤ 1024
    · rw [show muchB n = true by simp [muchB, h1, h2]]
      go_enter Try.func14, Try.ntmps14
      go_wp2
      go_ret
      exact ⟨rfl, rfl⟩
    · by_cases h3 : 3000 < n
      · rw [show muchB n = true by simp [muchB, h3]]
        go_enter Try.func14, Try.ntmps14
        go_wp2
        go_ret
        exact ⟨rfl, rfl⟩
      · rw [show muchB n = false by simp [muchB, h2, h3]]
        go_enter Try.func14, Try.ntmps14
        go_wp2
        go_ret
        exact ⟨rfl, rfl⟩
  · have h3 : ¬ 3000 < n := by omega
    rw [show muchB n = false by simp [muchB, h1, h3]]
    go_enter Try.func14, Try.ntmps14
    go_wp2
    go_ret
    exact ⟨rfl, rfl⟩
def wideC (span col : Int) : Int := min (max span 1) (max col 1)
set_option maxHeartbeats 1000000 in
theorem wide_any (span col : Int) (w : World) : Calls Try.prog 27 #[.int .i64 span, .int .i64 col] w fun e w' => e = .returned (.int .i64 (wideC span col)) ∧ w = w' := by
  go_enter Try.func27, Try.ntmps27
  go_wp2
  go_ret
  exact ⟨rfl, rfl⟩

def okW (l : List Int) : Prop := ∀ v ∈ l, 0 ≤ v ∧ v ≤ 20000
theorem okW_at {l : List Int} (h : okW l) (k : Nat) : 0 ≤ l.getD k 0 ∧ l.getD k 0 ≤ 20000 := by
  by_cases hk : k < l.length
  · rw [show l.getD k 0 = l[k] by simp [List.getD, hk]]
    exact h _ (List.getElem_mem hk)
  · rw [show l.getD k 0 = 0 by simp [List.getD, show l.length ≤ k by omega]]
    omega
theorem psumW {l : List Int} (h : okW l) : ∀ k, 0 ≤ psum l k ∧ psum l k ≤ 20000 * (k : Int) := by
  intro k
  induction k with
  | zero => show 0 ≤ (0 : Int) ∧ (0 : Int) ≤ _; omega
  | succ k ih =>
    have := okW_at h k
    show 0 ≤ psum l k + l.getD k 0 ∧ psum l k + l.getD k 0 ≤ _
    omega
theorem psum_mono {l : List Int} (h : okW l) {a b : Nat} (hab : a ≤ b) : psum l a ≤ psum l b := by
  induction b with
  | zero => rw [show a = 0 by omega]; exact Int.le_refl _
  | succ b ih =>
    by_cases e : a = b + 1
    · rw [e]; exact Int.le_refl _
    · have h1 := ih (by omega)
      have := okW_at h b
      show _ ≤ psum l b + l.getD b 0
      omega
def togP (l : List Int) (a b : Nat) (gap : Int) : Int := ((b : Int) - a - 1) * gap + (psum l b - psum l a)
set_option maxRecDepth 100000 in
set_option maxHeartbeats 2000000 in
theorem together_any (B : Nat) (A : Option Addr) (c : Nat) (l : List Int) (gap : Int) (a b : Nat) (w : World) (hA : At B w A (ints l)) (hab : a < b) (hbl : b ≤ l.length) (hl : l.length ≤ 100) (hok : okW l) (hg : 0 ≤ gap ∧ gap ≤ 16384) :
    Calls Try.prog 28 #[.slice A l.length c, .int .i64 a, .int .i64 ((b : Int) - a), .int .i64 gap] w fun e w' => e = .returned (.int .i64 (togP l a b gap)) ∧ w = w' := by
  have hmb : 0 ≤ ((b : Int) - a - 1) * gap ∧ ((b : Int) - a - 1) * gap ≤ 16777216 := by
    have := gap_bd hg (n := (b : Int) - a - 1) (by omega)
    rw [Int.mul_comm] at this
    exact this
  have HP := Go.Lib.hid (fun k => psumW hok k)
  have HM := Go.Lib.hid (fun k (h : a ≤ k) => psum_mono hok h)
  have HR : Hid (togP l a b gap = ((b : Int) - a - 1) * gap + (psum l b - psum l a)) := Go.Lib.hid rfl
  have HS : Hid (∀ k (hk : k < l.length), psum l (k + 1) = psum l k + l[k]) := Go.Lib.hid fun k hk => by
    show psum l k + l.getD k 0 = _
    rw [show l.getD k 0 = l[k] by simp [List.getD, hk]]
  have HOK := Go.Lib.hid hok
  obtain ⟨N, hN⟩ : ∃ N, l.length = N := ⟨_, rfl⟩
  have HN := Go.Lib.hid hN
  rw [hN] at hl hbl ⊢
  have hp0 := HP.out a
  clear hok hN
  have hsum : (a : Int) + ((b : Int) - a) = b := by omega
  generalize hpa : psum l a = pa at *
  have HPA := Go.Lib.hid hpa
  clear hpa
  go_enter Try.func28, Try.ntmps28
  go_wp2
  go_loop [9, 10] (fun s_ i => ∃ k : Nat, a ≤ k ∧ k ≤ b ∧ i = .int .i64 k ∧ s_ = .int .i64 (((b : Int) - a - 1) * gap + (psum l k - pa))) (fun _ i => b - (intOf i).toNat)
  case atStart => exact ⟨a, by omega, by omega, rfl, by rw [HPA.out, Int.sub_self, Int.add_zero]⟩
  case round =>
    obtain ⟨k, hak, hk, rfl, rfl⟩ := hrel
    have hp := HP.out k
    have hm := HM.out k hak
    by_cases hlt : k < b
    · have hli : (k : Int) < (b : Int) := by omega
      have hkN : (k : Int) < (N : Int) := by omega
      have hkl : k < l.length := by have := HN.out; omega
      obtain ⟨g, o, rfl, hg9, x1⟩ := hA.int hkl
      have hv := HOK.out l[k] (List.getElem_mem hkl)
      have HS2 := Go.Lib.hid (HS.out k hkl)
      generalize l[k] = v at *
      generalize psum l k = p at *
      clear hA
      go_wp2
      go_round
      case rel => exact ⟨k + 1, by omega, by omega, by go_num, by rw [HS2.out]; congr 1; omega⟩
      case measure => simp [intOf]; omega
    · have hlt' : ¬ ((k : Int) < (b : Int)) := by omega
      have hkx : k = b := by omega
      have HF : Hid (((b : Int) - a - 1) * gap + (psum l k - pa) = togP l a b gap) := Go.Lib.hid (by rw [hkx, HR.out])
      clear hkx
      go_wp2
      go_ret
      exact ⟨ret_int HF.out, rfl⟩

end Go.Proofs.Ytjippgflempdmaa
