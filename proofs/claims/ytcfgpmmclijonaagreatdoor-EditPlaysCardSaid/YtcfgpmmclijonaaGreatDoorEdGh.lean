/- Layer 25: where the key 'left' leads. -/
import Derived.Test.YtcfgpmmclijonaaGreatDoorEdAb
namespace Go.Proofs.YtcfgpmmclijonaaGreatDoor
set_option linter.unusedVariables false
set_option linter.unusedSimpArgs false
set_option maxRecDepth 100000
open Go.RowKit Go.Shelf Go.Lib
set_option maxRecDepth 100000
set_option maxHeartbeats 8000000

section
variable {w : World} {g : Nat} {b : ByteArray} {x : Nat} {p q : Value} {k m : Nat}
theorem goes_left (h : EdAt w g b x x p q k m) (hb : b.size ≤ 4000000) (hx : x ≤ b.size) (md : Nat) (a4 : bits .and .u8 (md : Int) 4 = 0) (a2 : bits .and .u8 (md : Int) 2 = 0) :
    Calls Tryz.prog 29 #[.pointer (some ⟨g, 0, none⟩), .agg #[.string ⟨#[108, 101, 102, 116]⟩, .int .u8 (md : Int)]] w fun e w' => e = .returned (.tuple #[.int .i64 (leftE b.data.toList x : Int), .bool true]) ∧ Below w.heap.size w w' := by
  have hB1 := (Below.refl w.heap.size w).alloc (Nat.le_refl _) (.cells #[.string ⟨#[108, 101, 102, 116]⟩, .int .u8 (md : Int)] 32)
  have bx1 : Box2 (w.alloc (.cells #[.string ⟨#[108, 101, 102, 116]⟩, .int .u8 (md : Int)] 32)) w.heap.size ⟨#[108, 101, 102, 116]⟩ md := Box2.of_heap (World.alloc_heap_new _ _)
  have h1 := h.on hB1
  obtain ⟨c0, c1, c2, c3, c4, c5, c6, c7⟩ := h1.cells
  have lg := h.lt
  have lg1 : g < w.heap.size + 1 := by omega
  have CL := fun w1 => line_any b x w1 hb hx
  have CF := fun w1 => left_any b x w1 hb hx
  have CS := fun w1 (h1 : EdAt w1 g b x x p q k m) => span_any h1
  simp only [Nat.min_self, Nat.max_self] at CS
  generalize leftE b.data.toList x = z at *
  generalize lineA b x = A at *
  generalize lineB b x = B at *
  have HCS := hid CS
  have HH := hid h1
  have hw1 : (w.alloc (.cells #[.string ⟨#[108, 101, 102, 116]⟩, .int .u8 (md : Int)] 32)).heap.size = w.heap.size + 1 := World.size_alloc _ _
  clear h h1 CS
  go_enter Tryz.func29, Tryz.ntmps29
  go_wp2
  refine region_ext mixed (by kernel_rfl) ?_
  generalize w.alloc (.cells #[.string ⟨#[108, 101, 102, 116]⟩, .int .u8 (md : Int)] 32) = w1 at *
  have lg2 : g < w1.heap.size := by omega
  (repeat (go_big_quiet_step (fail)))
  refine wpQuiet_nil ?_
  intro w2 hb2
  have bx2 := bx1.below hb2 (by omega)
  have hs2 := hb2.size
  have h2 := HH.out.on hb2
  have hB2 := hB1.trans (hb2.mono hB1.size)
  obtain ⟨k0, k1, k2, k3⟩ := bx2
  have H2 := hid h2
  clear c0 c1 c2 c3 c4 c5 c6 c7 h2 hb2
  go_wp2_with fail
  with_reducible refine (CL _).mono ?_
  rintro e w3 ⟨rfl, hb3⟩
  obtain ⟨j0, j1, j2, j3⟩ := Box2.below ⟨k0, k1, k2, k3⟩ hb3 (by omega)
  have hs3 := hb3.size
  have C3 := HCS.out w3 (H2.out.on hb3)
  have hB3 := hB2.trans (hb3.mono hB2.size)
  clear k0 k1 k2 k3 hb3
  go_wp2_with fail
  with_reducible refine C3.mono ?_
  rintro e w4 ⟨rfl, hb4⟩
  obtain ⟨k0, k1, k2, k3⟩ := Box2.below ⟨j0, j1, j2, j3⟩ hb4 (by omega)
  have hB4 := hB3.trans (hb4.mono hB3.size)
  clear j0 j1 j2 j3 hb4 C3
  go_wp2_with fail
  with_reducible refine (CF _).mono ?_
  rintro e w5 ⟨rfl, hb5⟩
  go_wp2
  exact bodyPost_ret (by simp [results, Tryz.results29, go_sem, *]) rfl ⟨rfl, hB4.trans (hb5.mono hB4.size)⟩
end
end Go.Proofs.YtcfgpmmclijonaaGreatDoor

/- Layer 25: the key 'left'. -/
namespace Go.Proofs.YtcfgpmmclijonaaGreatDoor
set_option linter.unusedVariables false
set_option linter.unusedSimpArgs false
set_option maxRecDepth 100000
open Go.RowKit Go.Shelf Go.Lib
set_option maxRecDepth 100000
set_option maxHeartbeats 8000000

theorem grown_new {w w1 : World} {j i : Nat} {u : Value} {ob : Option Nat} (h : w.grownBy w1 ob) (hj : w.heap.size ≤ j) : w.grownBy (w1.setCell ⟨j, i, none⟩ u) ob := by
  refine ⟨h.os, h.tape, h.output, by simpa using h.size, fun k hk hne => ?_⟩
  rw [heap_setCell_other _ _ _ _ (fun e => by simp only at e; omega)]
  exact h.block k hk hne
def txEq (a b : ByteArray) (x x' y y' : Int) : Bool := decide (a = b) && decide (x = x') && decide (y = y')
section
variable (w : World) (a b : ByteArray) (x x' y y' : Int)
theorem run_eql_text : (binOp .eql 39 (.agg #[.string a, .int .i64 x, .int .i64 y]) (.agg #[.string b, .int .i64 x', .int .i64 y'])).run Tryz.prog w = .ok (.bool (txEq a b x x' y y')) w := by
  unfold txEq
  have hb : (a.toList == b.toList) = decide (a = b) := by rw [← beq_toListBytes, ba_beq]
  by_cases h1 : a = b <;> by_cases h2 : x = x' <;> by_cases h3 : y = y' <;> simp [go_sem, h1, h2, h3, hb]
theorem run_neq_text : (binOp .neq 39 (.agg #[.string a, .int .i64 x, .int .i64 y]) (.agg #[.string b, .int .i64 x', .int .i64 y'])).run Tryz.prog w = .ok (.bool (!txEq a b x x' y y')) w := by
  unfold txEq
  have hb : (a.toList == b.toList) = decide (a = b) := by rw [← beq_toListBytes, ba_beq]
  by_cases h1 : a = b <;> by_cases h2 : x = x' <;> by_cases h3 : y = y' <;> simp [go_sem, h1, h2, h3, hb]
end
attribute [go_sem 2000] run_eql_text run_neq_text
section
variable {w : World} {g bR bE bB bD : Nat} {b b0 : ByteArray} {x y x0 y0 : Nat} {p q : Value} {k m : Nat}
theorem keyd_any (u : FrameMode) (hE : EdAt w g b x y p q k m) (hB : w.heap[bB]? = some (.cells #[.string b0, .int .i64 (x0 : Int), .int .i64 (y0 : Int)] 39 (0, 0))) (cR : w.cell? ⟨bR, 0, none⟩ = some (.int .i64 0)) (cE : w.cell? ⟨bE, 0, none⟩ = some (.pointer (some ⟨g, 0, none⟩)))
    (hD : w.heap[bD]? = some (.cells #[.bool false] 4 (0, 0))) (o : Bool) (ho : txEq b b0 (x : Int) (x0 : Int) (y : Int) (y0 : Int) = o) :
    CallsD Tryz.prog 28 #[.pointer (some ⟨bR, 0, none⟩), .pointer (some ⟨bE, 0, none⟩), .pointer (some ⟨bB, 0, none⟩), .pointer (some ⟨bD, 0, none⟩)] u w fun e u' w' => u' = u ∧ (e = .returned (.tuple #[]) ∧ w'.heap[bD]? = some (.cells #[.bool (!o)] 4 (0, 0)) ∧
      Turn (fun j => j = bD) w w') := by
  obtain ⟨c0, c1, c2, c3, c4, c5, c6, c7⟩ := hE.cells
  have lg := hE.lt
  have lB := lt_of_block hB
  have lD := lt_of_block hD
  have lR : bR < w.heap.size := World.block_lt_of_cell? _ _ cR
  have lE : bE < w.heap.size := World.block_lt_of_cell? _ _ cE
  have d0 : w.cell? ⟨bB, 0, none⟩ = some (.string b0) := by rw [blk_cell hB]; rfl
  have d1 : w.cell? ⟨bB, 1, none⟩ = some (.int .i64 (x0 : Int)) := by rw [blk_cell hB]; rfl
  have d2 : w.cell? ⟨bB, 2, none⟩ = some (.int .i64 (y0 : Int)) := by rw [blk_cell hB]; rfl
  have HD := hid hD
  clear hE hB hD
  go_enter_d Tryz.func28, Tryz.ntmps28
  go_wp2
  refine region_ext_last 1 mixed (by kernel_rfl) ?_
  simp only [List.length_cons, List.length_nil, Nat.reduceAdd, Nat.reduceSub, List.take_succ_cons, List.take_zero, List.drop_succ_cons, List.drop_zero]
  (repeat (go_big_quiet_step (fail)))
  refine wpQuiet_nil ?_
  intro w4 hb4
  have hD4 := (hb4.block _ lD).trans HD.out
  have e0 : w4.cell? ⟨bD, 0, none⟩ = some (.bool false) := by rw [blk_cell hD4]; rfl
  have e1 := blk_frozen hD4 0
  have hD5 : (w4.setCell ⟨bD, 0, none⟩ (.bool (!o))).heap[bD]? = some (.cells #[.bool (!o)] 4 (0, 0)) := store_in hD4
  have HD5 := hid hD5
  have HB4 := hid hb4
  clear c0 c1 c2 c3 c4 c5 c6 c7 d0 d1 d2 cR cE hD4 hD5 hb4
  go_wp2
  go_end0
  exact ⟨rfl, HD5.out, (Turn.of_below HB4.out).trans (Turn.set (C := fun j => j = bD) (p := ⟨bD, 0, none⟩) rfl _)⟩
end
section
variable {w : World} {g : Nat} {b : ByteArray} {x : Nat} {p q : Value} {k m : Nat}
theorem Key_left (hT : Tabs w) (h : EdAt w g b x x p q k m) (hb : b.size ≤ 4000000) (hx : x ≤ b.size) (md : Nat) (a4 : bits .and .u8 (md : Int) 4 = 0) (a2 : bits .and .u8 (md : Int) 2 = 0) (kv : Int) (a1 : bits .and .u8 (md : Int) 1 = kv) (keep : Bool) (hk : (kv != 0) = keep)
    (tb : ByteArray) (htx : textT ⟨[108, 101, 102, 116], md⟩ = .tuple #[.string tb, .int .i64 0]) (o : Bool) (ho : txEq b b (leftE b.data.toList x : Int) (x : Int) ((if keep then x else leftE b.data.toList x : Nat) : Int) (x : Int) = o) :
    Calls Tryz.prog 9 #[.pointer (some ⟨g, 0, none⟩), .agg #[.string ⟨#[108, 101, 102, 116]⟩, .int .u8 (md : Int)]] w fun e w' => e = .returned (.tuple #[.bool (!o), .int .i64 0]) ∧ EdAt w' g b (leftE b.data.toList x) (if keep then x else leftE b.data.toList x) p q k m ∧ w.grownBy w' (some g) := by
  obtain ⟨Y, hY⟩ : ∃ Y, (if keep = true then x else leftE b.data.toList x) = Y := ⟨_, rfl⟩
  rw [hY] at ho ⊢
  have HY := hid hY
  clear hY
  obtain ⟨W, hW⟩ : ∃ W, (((w.alloc (.cells #[.pointer (some ⟨g, 0, none⟩)] 23)).alloc (.cells #[.string ⟨#[108, 101, 102, 116]⟩, .int .u8 (md : Int)] 32)).alloc (.cells #[.bool false] 4)).alloc (.cells #[.int .i64 0] 24) = W := ⟨_, rfl⟩
  have hB : Below w.heap.size w W := by
    rw [← hW]
    exact ((((Below.refl _ _).alloc (Nat.le_refl _) _).alloc (by simp) _).alloc (by first | (simp; done) | (simp; omega)) _).alloc (by first | (simp; done) | (simp; omega)) _
  have hs : W.heap.size = w.heap.size + 1 + 1 + 1 + 1 := by rw [← hW]; simp
  have n0 : W.heap[w.heap.size]? = some (.cells #[.pointer (some ⟨g, 0, none⟩)] 23 (0, 0)) := by
    rw [← hW, Below.heap_alloc _ _ _ (by first | (simp; done) | (simp; omega)), Below.heap_alloc _ _ _ (by first | (simp; done) | (simp; omega)), Below.heap_alloc _ _ _ (by simp)]
    exact World.alloc_heap_new _ _
  have n1 : W.heap[w.heap.size + 1]? = some (.cells #[.string ⟨#[108, 101, 102, 116]⟩, .int .u8 (md : Int)] 32 (0, 0)) := by
    rw [← hW, Below.heap_alloc _ _ _ (by first | (simp; done) | (simp; omega)), Below.heap_alloc _ _ _ (by simp)]
    simpa using World.alloc_heap_new (w.alloc (.cells #[.pointer (some ⟨g, 0, none⟩)] 23)) (.cells #[.string ⟨#[108, 101, 102, 116]⟩, .int .u8 (md : Int)] 32)
  have n2 : W.heap[w.heap.size + 1 + 1]? = some (.cells #[.bool false] 4 (0, 0)) := by
    rw [← hW, Below.heap_alloc _ _ _ (by simp)]
    simpa using World.alloc_heap_new ((w.alloc (.cells #[.pointer (some ⟨g, 0, none⟩)] 23)).alloc (.cells #[.string ⟨#[108, 101, 102, 116]⟩, .int .u8 (md : Int)] 32)) (.cells #[.bool false] 4)
  have n3 : W.heap[w.heap.size + 1 + 1 + 1]? = some (.cells #[.int .i64 0] 24 (0, 0)) := by
    rw [← hW]
    simpa using World.alloc_heap_new (((w.alloc (.cells #[.pointer (some ⟨g, 0, none⟩)] 23)).alloc (.cells #[.string ⟨#[108, 101, 102, 116]⟩, .int .u8 (md : Int)] 32)).alloc (.cells #[.bool false] 4)) (.cells #[.int .i64 0] 24)
  have hE := h.on hB
  have lg := h.lt
  have HT := hid hT
  have HW := hid hW
  have HE := hid hE
  have N0 := hid n0
  have N1 := hid n1
  have N2 := hid n2
  have N3 := hid n3
  clear h hT hW n0 n1 n2 n3 hE
  have hmf : ∀ (fn : Fn) (first cap : Array Value) (w : World), (Instr.makeFunc fn first cap).run Tryz.prog w = .ok (.func fn first cap) w := fun _ _ _ _ => rfl
  have F : ∀ w', Below W.heap.size W w' → EdAt w' g b x x p q k m ∧ w'.heap[w.heap.size]? = some (.cells #[.pointer (some ⟨g, 0, none⟩)] 23 (0, 0)) ∧ w'.heap[w.heap.size + 1]? = some (.cells #[.string ⟨#[108, 101, 102, 116]⟩, .int .u8 (md : Int)] 32 (0, 0)) ∧
      w'.heap[w.heap.size + 1 + 1]? = some (.cells #[.bool false] 4 (0, 0)) ∧ w'.heap[w.heap.size + 1 + 1 + 1]? = some (.cells #[.int .i64 0] 24 (0, 0)) := fun w' hb =>
    ⟨HE.out.on hb, (hb.block _ (by omega)).trans N0.out, (hb.block _ (by omega)).trans N1.out, (hb.block _ (by omega)).trans N2.out, (hb.block _ (by omega)).trans N3.out⟩
  have HF := hid F
  have hho := hid ho
  have HTX := hid htx
  clear F ho htx
  go_enter_defers Tryz.func9, Tryz.ntmps9
  go_wp2_with fail
  rw [HW.out]
  with_reducible refine (is_any HE.out).mono ?_
  rintro e w1 ⟨rfl, hb1⟩
  obtain ⟨e1, n0, n1, n2, n3⟩ := HF.out w1 hb1
  have k0 : w1.cell? ⟨w.heap.size + 1, 0, none⟩ = some (.string ⟨#[108, 101, 102, 116]⟩) := by rw [blk_cell n1]; rfl
  have k1 : w1.cell? ⟨w.heap.size + 1, 1, none⟩ = some (.int .u8 (md : Int)) := by rw [blk_cell n1]; rfl
  have CT := Text_any ⟨#[108, 101, 102, 116]⟩ md w1 (tabs_on HT.out (hB.trans (hb1.mono hB.size)))
  rw [show (⟨(ByteArray.mk #[108, 101, 102, 116]).data.toList, md⟩ : Ky) = ⟨[108, 101, 102, 116], md⟩ from rfl, HTX.out] at CT
  clear e1 n0 n1 n2 n3
  go_wp2_with fail
  with_reducible refine CT.mono ?_
  rintro e w2 ⟨rfl, hb2⟩
  have hB2 := hb1.trans (hb2.mono hb1.size)
  obtain ⟨e1, n0, n1, n2, n3⟩ := HF.out w2 hB2
  clear k0 k1 CT
  have k0 : w2.cell? ⟨w.heap.size + 1, 0, none⟩ = some (.string ⟨#[108, 101, 102, 116]⟩) := by rw [blk_cell n1]; rfl
  have k1 : w2.cell? ⟨w.heap.size + 1, 1, none⟩ = some (.int .u8 (md : Int)) := by rw [blk_cell n1]; rfl
  have k2 : w2.cell? ⟨w.heap.size, 0, none⟩ = some (.pointer (some ⟨g, 0, none⟩)) := by rw [blk_cell n0]; rfl
  obtain ⟨c0, c1, c2, c3, c4, c5, c6, c7⟩ := e1.cells
  have l0 := lt_of_block n0
  have l1 := lt_of_block n1
  have l2 := e1.lt
  have hA := (Below.refl w2.heap.size w2).alloc (Nat.le_refl _) (.cells #[.string b, .int .i64 (x : Int), .int .i64 (x : Int)] 39)
  have hbef : (w2.alloc (.cells #[.string b, .int .i64 (x : Int), .int .i64 (x : Int)] 39)).heap[w2.heap.size]? = some (.cells #[.string b, .int .i64 (x : Int), .int .i64 (x : Int)] 39 (0, 0)) := World.alloc_heap_new _ _
  have HBEF := hid hbef
  have hB3 := hB2.trans (hA.mono hB2.size)
  have CG := goes_left (e1.on hA) hb hx md a4 a2
  clear e1 n0 n1 n2 n3 hbef
  go_wp2_with fail
  with_reducible refine CG.mono ?_
  rintro e w3 ⟨rfl, hb3⟩
  have hB4 := hB3.trans (hb3.mono hB3.size)
  have hbef := (hb3.block _ (lt_of_block HBEF.out)).trans HBEF.out
  have HBF := hid hbef
  obtain ⟨e1, n0, n1, n2, n3⟩ := HF.out w3 hB4
  clear k0 k1 k2 c0 c1 c2 c3 c4 c5 c6 c7 CG hbef
  have k1 : w3.cell? ⟨w.heap.size + 1, 1, none⟩ = some (.int .u8 (md : Int)) := by rw [blk_cell n1]; rfl
  have k2 : w3.cell? ⟨w.heap.size, 0, none⟩ = some (.pointer (some ⟨g, 0, none⟩)) := by rw [blk_cell n0]; rfl
  have CO := to_any e1 (leftE b.data.toList x) keep
  rw [HY.out] at CO
  have hs2 := hB2.size
  have HN := hid (And.intro n0 (And.intro n2 n3))
  clear e1 n0 n1 n2 n3
  go_wp2_with fail
  with_reducible refine CO.mono ?_
  rintro e w4 ⟨rfl, h4, hg4⟩
  obtain ⟨m0, m2, m3⟩ := HN.out
  have hgn : ∀ j, w.heap.size ≤ j → some j ≠ some g := fun j hj e => by
    injection e with e
    omega
  have p0 := (hg4.block _ (lt_of_block m0) (hgn _ (by omega))).trans m0
  have p2 := (hg4.block _ (lt_of_block m2) (hgn _ (by omega))).trans m2
  have p3 := (hg4.block _ (lt_of_block m3) (hgn _ (by omega))).trans m3
  have pB := (hg4.block _ (lt_of_block HBF.out) (hgn _ (by omega))).trans HBF.out
  have d2 : w4.cell? ⟨w.heap.size + 1 + 1, 0, none⟩ = some (.bool false) := by rw [blk_cell p2]; rfl
  have d3 : w4.cell? ⟨w.heap.size + 1 + 1 + 1, 0, none⟩ = some (.int .i64 0) := by rw [blk_cell p3]; rfl
  have f2 := blk_frozen p2 0
  have f3 := blk_frozen p3 0
  obtain ⟨L, hL⟩ : ∃ L, (w4.setCell ⟨w.heap.size + 1 + 1, 0, none⟩ (.bool false)).setCell ⟨w.heap.size + 1 + 1 + 1, 0, none⟩ (.int .i64 0) = L := ⟨_, rfl⟩
  have hE7 : EdAt L g b (leftE b.data.toList x) Y p q k m := by
    rw [← hL]
    exact store_off (store_off h4 (by omega)) (by omega)
  have hB7 : L.heap[w2.heap.size]? = some (.cells #[.string b, .int .i64 (x : Int), .int .i64 (x : Int)] 39 (0, 0)) := by
    rw [← hL]
    exact store_off (store_off pB (by omega)) (by omega)
  have h07 : L.heap[w.heap.size]? = some (.cells #[.pointer (some ⟨g, 0, none⟩)] 23 (0, 0)) := by
    rw [← hL]
    exact store_off (store_off p0 (by omega)) (by omega)
  have h27 : L.heap[w.heap.size + 1 + 1]? = some (.cells #[.bool false] 4 (0, 0)) := by
    rw [← hL]
    exact store_off (store_in p2) (by omega)
  have h37 : L.heap[w.heap.size + 1 + 1 + 1]? = some (.cells #[.int .i64 0] 24 (0, 0)) := by
    rw [← hL]
    exact store_in (store_off p3 (by omega))
  have hg7 : w.grownBy L (some g) := by
    rw [← hL]
    exact grown_new (grown_new (grown_below (hB.trans (hB4.mono hB.size)) hg4) (by omega)) (by omega)
  have CH := keyd_any .returning hE7 hB7 (by rw [blk_cell h37]; rfl) (by rw [blk_cell h07]; rfl) h27 o hho.out
  have HL := hid hL
  have HCH := hid CH
  have HE7 := hid hE7
  have H37 := hid h37
  have HG7 := hid hg7
  clear k1 k2 h4 hg4 m0 m2 m3 p0 p2 p3 pB hL hE7 hB7 h07 h27 h37 hg7 CH CO
  go_wp2
  rw [HL.out]
  refine leaves_cons (f := 28) (args := #[.pointer (some ⟨w.heap.size + 1 + 1 + 1, 0, none⟩), .pointer (some ⟨w.heap.size, 0, none⟩), .pointer (some ⟨w2.heap.size, 0, none⟩), .pointer (some ⟨w.heap.size + 1 + 1, 0, none⟩)]) (by simp) (by simp [go_sem]) ?_
  refine HCH.out.mono ?_
  rintro e u' w8 ⟨rfl, rfl, hD8, T8⟩
  have hE8 : EdAt w8 g b (leftE b.data.toList x) Y p q k m := by
    unfold EdAt
    rw [T8.block g HE7.out.lt (by omega)]
    exact HE7.out
  have r3 := (T8.block _ (lt_of_block H37.out) (by omega)).trans H37.out
  have r30 : w8.cell? ⟨w.heap.size + 1 + 1 + 1, 0, none⟩ = some (.int .i64 0) := by rw [blk_cell r3]; rfl
  have r20 : w8.cell? ⟨w.heap.size + 1 + 1, 0, none⟩ = some (.bool (!o)) := by rw [blk_cell hD8]; rfl
  refine ⟨.tuple #[.bool (!o), .int .i64 0], by simp [results, Tryz.results9, go_sem, r30, r20], rfl, hE8, T8.os.trans HG7.out.os, T8.tape.trans HG7.out.tape, T8.output.trans HG7.out.output, Nat.le_trans HG7.out.size T8.size, fun j hj hn => ?_⟩
  rw [T8.block j (by have := HG7.out.size; omega) (by omega)]
  exact HG7.out.block j hj hn
end
end Go.Proofs.YtcfgpmmclijonaaGreatDoor

/- Layer 25: Undo. -/
namespace Go.Proofs.YtcfgpmmclijonaaGreatDoor
set_option linter.unusedVariables false
set_option linter.unusedSimpArgs false
set_option maxRecDepth 100000
open Go.RowKit Go.Shelf Go.Lib
set_option maxRecDepth 100000
set_option maxHeartbeats 8000000

section
variable {w : World} {g t : Nat} {b b0 b1 : ByteArray} {x y x0 y0 x1 y1 : Nat} {Q R : Option Addr} {k m : Nat}
theorem Undo_any (h : EdAt w g b x y (.pointer (some ⟨t, 0, none⟩)) (.pointer Q) (k + 1) m) (hS : StAt w t b0 x0 y0 b1 x1 y1 (.pointer R)) (hgt : g ≠ t) (hk : k ≤ 300) (hm : m ≤ 1000000) :
    Calls Tryz.prog 13 #[.pointer (some ⟨g, 0, none⟩)] w fun e w' => ∃ t', e = .returned (.tuple #[.bool true, .int .i64 0]) ∧ EdAt w' g b0 x0 y0 (.pointer R) (.pointer (some ⟨t', 0, none⟩)) k (m + 1) ∧ StAt w' t' b0 x0 y0 b1 x1 y1 (.pointer Q) ∧ w.heap.size ≤ t' ∧ w.grownBy w' (some g) := by
  have C := is_any h
  have HH := hid h
  have HS := hid hS
  clear h hS
  go_enter Tryz.func13, Tryz.ntmps13
  go_wp2_with fail
  with_reducible refine C.mono ?_
  rintro e w1 ⟨rfl, hb1⟩
  have h1 := HH.out.on hb1
  have s1 := HS.out.on hb1
  obtain ⟨c0, c1, c2, c3, c4, c5, c6, c7⟩ := h1.cells
  obtain ⟨d0, d1, d2, d3, d4, d5, d6⟩ := s1.cells
  have f := h1.free
  have n1 : ¬ g = t := hgt
  have n2 : ¬ t = g := Ne.symm hgt
  have lg := h1.lt
  have lt := lt_of_block s1
  obtain ⟨W, hW⟩ : ∃ W, (((w1.setCell ⟨g, 1, none⟩ (.string b0)).setCell ⟨g, 2, none⟩ (.int .i64 (x0 : Int))).setCell ⟨g, 3, none⟩ (.int .i64 (y0 : Int))).setCell ⟨g, 4, none⟩ (.pointer R) = W := ⟨_, rfl⟩
  have hE : EdAt W g b0 x0 y0 (.pointer R) (.pointer Q) (k + 1) m := by
    rw [← hW]
    exact store_in (store_in (store_in (store_in h1)))
  have hS : StAt W t b0 x0 y0 b1 x1 y1 (.pointer R) := by
    rw [← hW]
    exact store_off (store_off (store_off (store_off s1 n2) n2) n2) n2
  have hG : w.grownBy W (some g) := by
    rw [← hW]
    exact grown_cell (grown_cell (grown_cell (grown_cell (grown_below hb1 (World.grownBy.refl _ _)))))
  have HW := hid hW
  have HE := hid hE
  have HS2 := hid hS
  have HG := hid hG
  clear h1 s1 hE hS hG hW C
  go_upto_region 9 with fail
  rw [HW.out]
  clear c0 c1 c2 c3 c4 c5 c6 c7 d0 d1 d2 d3 d4 d5 d6 f lg lt
  have HWs := HG.out.size
  go_cut [] from 31 to 48 (fun wx => ∃ t', EdAt wx g b0 x0 y0 (.pointer R) (.pointer (some ⟨t', 0, none⟩)) (k + 1) m ∧ StAt wx t' b0 x0 y0 b1 x1 y1 (.pointer Q) ∧ w.heap.size ≤ t' ∧ w.grownBy wx (some g))
  case first =>
    have hmx := mixed
    have hE := HE.out
    have hS := HS2.out
    obtain ⟨c0, c1, c2, c3, c4, c5, c6, c7⟩ := hE.cells
    obtain ⟨d0, d1, d2, d3, d4, d5, d6⟩ := hS.cells
    have f5 := hE.free 5
    have lg := hE.lt
    have lt := lt_of_block hS
    have lg2 : ¬ W.heap.size = g := by omega
    have lg3 : ¬ g = W.heap.size := by omega
    clear hE hS
    go_region
    all_goals go_wp2
    all_goals go_meet
    have hs5 : (W.setCell ⟨g, 5, none⟩ (.pointer (some ⟨W.heap.size, 0, none⟩))).heap.size = W.heap.size := by simp
    have e5 : EdAt (W.setCell ⟨g, 5, none⟩ (.pointer (some ⟨W.heap.size, 0, none⟩))) g b0 x0 y0 (.pointer R) (.pointer (some ⟨W.heap.size, 0, none⟩)) (k + 1) m := store_in HE.out
    refine ⟨W.heap.size, e5.on (((Below.refl _ _).alloc (Nat.le_refl _) _).drew), ?_, by omega, grown_then (grown_cell HG.out) (((Below.refl _ _).alloc (Nat.le_refl _) _).drew)⟩
    have := World.alloc_heap_new (W.setCell ⟨g, 5, none⟩ (.pointer (some ⟨W.heap.size, 0, none⟩))) (.cells (stC b0 x0 y0 b1 x1 y1 (.pointer Q)) 73)
    rw [hs5] at this
    exact this
  case rest =>
    obtain ⟨t', hE, hS, ht, hg⟩ := hcut
    obtain ⟨c0, c1, c2, c3, c4, c5, c6, c7⟩ := hE.cells
    have f6 := hE.free 6
    have f7 := hE.free 7
    have lg := hE.lt
    have lt := lt_of_block hS
    have hE2 : EdAt ((wc.setCell ⟨g, 6, none⟩ (.int .i64 (k : Int))).setCell ⟨g, 7, none⟩ (.int .i64 ((m + 1 : Nat) : Int))) g b0 x0 y0 (.pointer R) (.pointer (some ⟨t', 0, none⟩)) k (m + 1) := store_in (store_in hE)
    have HE2 := hid hE2
    have HS3 := hid hS
    have HG3 := hid hg
    have q1 : ((k + 1 : Nat) : Int) - 1 = (k : Int) := by omega
    have q2 : (k : Int) + 1 - 1 = (k : Int) := by omega
    have htg : ¬ t' = g := by
      intro e
      subst e
      have h1 := hE
      have h2 := hS
      unfold EdAt at h1
      unfold StAt at h2
      rw [h1] at h2
      simp [edC, stC] at h2
    clear hE hS hg hE2
    go_wp2
    exact bodyPost_ret (by simp [results, Tryz.results13, go_sem, *]) rfl ⟨t', rfl, HE2.out, store_off (store_off HS3.out htg) htg, ht, grown_cell (grown_cell HG3.out)⟩
end
end Go.Proofs.YtcfgpmmclijonaaGreatDoor

/- Layer 25: the law's own key, is; alive. -/
namespace Go.Proofs.YtcfgpmmclijonaaGreatDoor
set_option linter.unusedVariables false
set_option linter.unusedSimpArgs false
set_option maxRecDepth 100000
open Go.RowKit Go.Shelf Go.Lib
set_option maxRecDepth 100000
set_option maxHeartbeats 8000000

def abB : ByteArray := ⟨#[97, 98]⟩
theorem left2 : leftE [97, 98] 2 = 1 := by kernel_rfl
theorem left1 : leftE [97, 98] 1 = 0 := by kernel_rfl
theorem cat_xyb : (⟨#[97, 98]⟩ : ByteArray).extract 0 0 ++ ⟨#[120, 121]⟩ ++ (⟨#[97, 98]⟩ : ByteArray).extract 1 2 = ⟨#[120, 121, 98]⟩ := by decide
theorem set_xyb : settledE [120, 121, 98] 2 = 2 := by kernel_rfl
theorem tx_l0 : textT ⟨[108, 101, 102, 116], 0⟩ = .tuple #[.string ⟨#[108, 101, 102, 116]⟩, .int .i64 0] := by kernel_rfl
theorem tx_l1 : textT ⟨[108, 101, 102, 116], 1⟩ = .tuple #[.string ⟨#[115, 104, 105, 102, 116, 43, 108, 101, 102, 116]⟩, .int .i64 0] := by kernel_rfl
section
variable {w : World} {g : Nat} {p q : Value} {k m : Nat}
theorem key_l0 (hT : Tabs w) (h : EdAt w g ⟨#[97, 98]⟩ 2 2 p q k m) : Calls Tryz.prog 9 #[.pointer (some ⟨g, 0, none⟩), .agg #[.string ⟨#[108, 101, 102, 116]⟩, .int .u8 0]] w fun e w' => e = .returned (.tuple #[.bool true, .int .i64 0]) ∧ EdAt w' g ⟨#[97, 98]⟩ 1 1 p q k m ∧ w.grownBy w' (some g) := by
  have C := Key_left hT h (by decide) (by decide) 0 (by kernel_rfl) (by kernel_rfl) 0 (by kernel_rfl) false (by decide) _ tx_l0 false (by rw [show (ByteArray.mk #[97, 98]).data.toList = [97, 98] from rfl, left2]; decide)
  rw [show (ByteArray.mk #[97, 98]).data.toList = [97, 98] from rfl, left2] at C
  exact C
theorem key_l1 (hT : Tabs w) (h : EdAt w g ⟨#[97, 98]⟩ 1 1 p q k m) : Calls Tryz.prog 9 #[.pointer (some ⟨g, 0, none⟩), .agg #[.string ⟨#[108, 101, 102, 116]⟩, .int .u8 1]] w fun e w' => e = .returned (.tuple #[.bool true, .int .i64 0]) ∧ EdAt w' g ⟨#[97, 98]⟩ 0 1 p q k m ∧ w.grownBy w' (some g) := by
  have C := Key_left hT h (by decide) (by decide) 1 (by kernel_rfl) (by kernel_rfl) 1 (by kernel_rfl) true (by decide) _ tx_l1 false (by rw [show (ByteArray.mk #[97, 98]).data.toList = [97, 98] from rfl, left1]; decide)
  rw [show (ByteArray.mk #[97, 98]).data.toList = [97, 98] from rfl, left1] at C
  exact C
theorem type_xy {P : Option Addr} (h : EdAt w g ⟨#[97, 98]⟩ 0 1 (.pointer P) q 0 m) : Calls Tryz.prog 7 #[.pointer (some ⟨g, 0, none⟩), .string ⟨#[120, 121]⟩] w fun e w' => e = .returned (.int .i64 0) ∧ ∃ t, EdAt w' g ⟨#[120, 121, 98]⟩ 2 2 (.pointer (some ⟨t, 0, none⟩)) (.pointer none) 1 0 ∧ StAt w' t ⟨#[97, 98]⟩ 0 1 ⟨#[120, 121, 98]⟩ 2 2 (.pointer P) ∧
    w.heap.size ≤ t ∧ w.grownBy w' (some g) := by
  refine Type_of h ⟨#[120, 121]⟩ _ 0 fun w1 hb1 h1 => ?_
  have C := change_any h1 ⟨#[120, 121]⟩ 0 1 (by decide) (by decide) (by decide) (by decide) (by decide) (by decide) (by decide)
  refine C.mono ?_
  rintro e w2 ⟨t, z, rfl, hz, hE, hS, ht, hg⟩
  rw [show (ByteArray.mk #[97, 98]).size = 2 from rfl, cat_xyb] at hz hE hS
  have hz2 : z = 2 := by
    rw [hz]
    exact set_xyb
  subst hz2
  exact ⟨rfl, rfl, t, hE, hS, Nat.le_trans hb1.size ht, grown_below hb1 hg⟩
end
end Go.Proofs.YtcfgpmmclijonaaGreatDoor

/- Layer 25: alive. -/
namespace Go.Proofs.YtcfgpmmclijonaaGreatDoor
set_option linter.unusedVariables false
set_option linter.unusedSimpArgs false
set_option maxRecDepth 100000
open Go.RowKit Go.Shelf Go.Lib
set_option maxRecDepth 100000
set_option maxHeartbeats 8000000

theorem grown_b {w wr w' : World} {g : Nat} (hb : Below w.heap.size w wr) (hg : wr.grownBy w' (some g)) (h : w.heap.size ≤ g) : Below w.heap.size w w' := hb.grown hg hb.size (fun k hk => by
  injection hk with hk
  omega)
end Go.Proofs.YtcfgpmmclijonaaGreatDoor
