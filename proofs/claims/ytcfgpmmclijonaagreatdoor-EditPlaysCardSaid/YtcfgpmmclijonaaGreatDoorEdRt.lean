/- Layer 25: Undo and Redo where there is nothing; Redo; Depth; a place that may not be. -/
import Derived.Test.YtcfgpmmclijonaaGreatDoorEdGh
import Derived.Test.YtcfgpmmclijonaaGreatDoorEdSg
namespace Go.Proofs.YtcfgpmmclijonaaGreatDoor
set_option linter.unusedVariables false
set_option linter.unusedSimpArgs false
set_option maxRecDepth 100000
open Go.RowKit Go.Shelf Go.Lib
set_option maxRecDepth 100000
set_option maxHeartbeats 8000000

section
variable {w : World} {g t : Nat} {b b0 b1 : ByteArray} {x y x0 y0 x1 y1 : Nat} {p q : Value} {Q R : Option Addr} {k m : Nat}
theorem ed_st_ne (h : EdAt w g b x y p q k m) {t : Nat} {r : Value} (s : StAt w t b0 x0 y0 b1 x1 y1 r) : g ≠ t := by
  intro e
  subst e
  unfold EdAt at h
  unfold StAt at s
  rw [h] at s
  simp [edC, stC] at s
theorem Undo_none (h : EdAt w g b x y (.pointer none) q k m) : Calls Tryz.prog 13 #[.pointer (some ⟨g, 0, none⟩)] w fun e w' => e = .returned (.tuple #[.bool false, .int .i64 0]) ∧ Below w.heap.size w w' := by
  have C := is_any h
  have HH := hid h
  clear h
  go_enter Tryz.func13, Tryz.ntmps13
  go_wp2_with fail
  with_reducible refine C.mono ?_
  rintro e w1 ⟨rfl, hb1⟩
  have h1 := HH.out.on hb1
  obtain ⟨c0, c1, c2, c3, c4, c5, c6, c7⟩ := h1.cells
  have lg := h1.lt
  clear C h1
  go_wp2
  exact bodyPost_ret (by simp [results, Tryz.results13, go_sem, *]) rfl ⟨rfl, hb1⟩
theorem Redo_none (h : EdAt w g b x y p (.pointer none) k m) : Calls Tryz.prog 15 #[.pointer (some ⟨g, 0, none⟩)] w fun e w' => e = .returned (.tuple #[.bool false, .int .i64 0]) ∧ Below w.heap.size w w' := by
  have C := is_any h
  have HH := hid h
  clear h
  go_enter Tryz.func15, Tryz.ntmps15
  go_wp2_with fail
  with_reducible refine C.mono ?_
  rintro e w1 ⟨rfl, hb1⟩
  have h1 := HH.out.on hb1
  obtain ⟨c0, c1, c2, c3, c4, c5, c6, c7⟩ := h1.cells
  have lg := h1.lt
  clear C h1
  go_wp2
  exact bodyPost_ret (by simp [results, Tryz.results15, go_sem, *]) rfl ⟨rfl, hb1⟩
theorem Depth_any (h : EdAt w g b x y p q k m) : Calls Tryz.prog 22 #[.pointer (some ⟨g, 0, none⟩)] w fun e w' => e = .returned (.tuple #[.int .i64 (k : Int), .int .i64 (m : Int)]) ∧ Below w.heap.size w w' := by
  have C := is_any h
  have HH := hid h
  clear h
  go_enter Tryz.func22, Tryz.ntmps22
  go_wp2_with fail
  with_reducible refine C.mono ?_
  rintro e w1 ⟨rfl, hb1⟩
  have h1 := HH.out.on hb1
  obtain ⟨c0, c1, c2, c3, c4, c5, c6, c7⟩ := h1.cells
  have lg := h1.lt
  clear C h1
  go_wp2
  refine region_ext mixed (by kernel_rfl) ?_
  (repeat (go_big_quiet_step (fail)))
  refine wpQuiet_nil ?_
  intro w2 hb2
  go_wp2
  exact bodyPost_ret (by simp [results, Tryz.results22, go_sem, *]) rfl ⟨rfl, hb1.trans (hb2.mono hb1.size)⟩
theorem Move_bad (h : EdAt w g b x y p q k m) (a : Int) (ha : a < 0 ∨ (b.size : Int) < a) (keep : Bool) : Calls Tryz.prog 11 #[.pointer (some ⟨g, 0, none⟩), .int .i64 a, .bool keep] w fun e w' => e = .returned (.int .i64 2) ∧ Below w.heap.size w w' := by
  have C := is_any h
  have HH := hid h
  have hc : (decide (a < 0) = true) ∨ (decide (a < 0) = false ∧ decide ((b.size : Int) < a) = true) := by
    by_cases h0 : a < 0
    · exact .inl (decide_eq_true h0)
    · exact .inr ⟨decide_eq_false h0, decide_eq_true (by omega)⟩
  clear h ha
  rcases hc with q1 | ⟨q1, q2⟩
  all_goals
    go_enter Tryz.func11, Tryz.ntmps11
    go_wp2_with fail
    with_reducible refine C.mono ?_
    rintro e w1 ⟨rfl, hb1⟩
    have h1 := HH.out.on hb1
    obtain ⟨c0, c1, c2, c3, c4, c5, c6, c7⟩ := h1.cells
    have lg := h1.lt
    clear C h1
    go_wp2
    go_ret
    exact ⟨rfl, hb1⟩
theorem Redo_any (h : EdAt w g b x y (.pointer Q) (.pointer (some ⟨t, 0, none⟩)) k (m + 1)) (hS : StAt w t b0 x0 y0 b1 x1 y1 (.pointer R)) (hgt : g ≠ t) (hk : k ≤ 300) (hm : m ≤ 1000000) :
    Calls Tryz.prog 15 #[.pointer (some ⟨g, 0, none⟩)] w fun e w' => ∃ t', e = .returned (.tuple #[.bool true, .int .i64 0]) ∧ EdAt w' g b1 x1 y1 (.pointer (some ⟨t', 0, none⟩)) (.pointer R) (k + 1) m ∧ StAt w' t' b0 x0 y0 b1 x1 y1 (.pointer Q) ∧ w.heap.size ≤ t' ∧ w.grownBy w' (some g) := by
  have C := is_any h
  have HH := hid h
  have HS := hid hS
  clear h hS
  go_enter Tryz.func15, Tryz.ntmps15
  go_wp2_with fail
  with_reducible refine C.mono ?_
  rintro e w1 ⟨rfl, hb1⟩
  have h1 := HH.out.on hb1
  have s1 := HS.out.on hb1
  obtain ⟨c0, c1, c2, c3, c4, c5, c6, c7⟩ := h1.cells
  obtain ⟨d0, d1, d2, d3, d4, d5, d6⟩ := s1.cells
  have f := h1.free
  have n1 : ¬ g = t := hgt
  have n2 : ¬ t = g := Ne.symm hgt
  have lg := h1.lt
  have lt := lt_of_block s1
  obtain ⟨W, hW⟩ : ∃ W, (((w1.setCell ⟨g, 1, none⟩ (.string b1)).setCell ⟨g, 2, none⟩ (.int .i64 (x1 : Int))).setCell ⟨g, 3, none⟩ (.int .i64 (y1 : Int))).setCell ⟨g, 5, none⟩ (.pointer R) = W := ⟨_, rfl⟩
  have hE : EdAt W g b1 x1 y1 (.pointer Q) (.pointer R) k (m + 1) := by
    rw [← hW]
    exact store_in (store_in (store_in (store_in h1)))
  have hS : StAt W t b0 x0 y0 b1 x1 y1 (.pointer R) := by
    rw [← hW]
    exact store_off (store_off (store_off (store_off s1 n2) n2) n2) n2
  have hG : w.grownBy W (some g) := by
    rw [← hW]
    exact grown_cell (grown_cell (grown_cell (grown_cell (grown_below hb1 (World.grownBy.refl _ _)))))
  have HW := hid hW
  have HE := hid hE
  have HS2 := hid hS
  have HG := hid hG
  clear h1 s1 hE hS hG hW C
  go_upto_region 9 with fail
  rw [HW.out]
  clear c0 c1 c2 c3 c4 c5 c6 c7 d0 d1 d2 d3 d4 d5 d6 f lg lt
  have HWs := HG.out.size
  go_cut [] from 31 to 47 (fun wx => ∃ t', EdAt wx g b1 x1 y1 (.pointer (some ⟨t', 0, none⟩)) (.pointer R) k (m + 1) ∧ StAt wx t' b0 x0 y0 b1 x1 y1 (.pointer Q) ∧ w.heap.size ≤ t' ∧ w.grownBy wx (some g))
  case first =>
    have hmx := mixed
    have hE := HE.out
    have hS := HS2.out
    obtain ⟨c0, c1, c2, c3, c4, c5, c6, c7⟩ := hE.cells
    obtain ⟨d0, d1, d2, d3, d4, d5, d6⟩ := hS.cells
    have f5 := hE.free 4
    have lg := hE.lt
    have lt := lt_of_block hS
    have lg2 : ¬ W.heap.size = g := by omega
    have lg3 : ¬ g = W.heap.size := by omega
    clear hE hS
    go_region
    all_goals go_wp2
    all_goals go_meet
    have hs5 : (W.setCell ⟨g, 4, none⟩ (.pointer (some ⟨W.heap.size, 0, none⟩))).heap.size = W.heap.size := by simp
    have e5 : EdAt (W.setCell ⟨g, 4, none⟩ (.pointer (some ⟨W.heap.size, 0, none⟩))) g b1 x1 y1 (.pointer (some ⟨W.heap.size, 0, none⟩)) (.pointer R) k (m + 1) := store_in HE.out
    refine ⟨W.heap.size, e5.on (((Below.refl _ _).alloc (Nat.le_refl _) _).drew), ?_, by omega, grown_then (grown_cell HG.out) (((Below.refl _ _).alloc (Nat.le_refl _) _).drew)⟩
    have := World.alloc_heap_new (W.setCell ⟨g, 4, none⟩ (.pointer (some ⟨W.heap.size, 0, none⟩))) (.cells (stC b0 x0 y0 b1 x1 y1 (.pointer Q)) 73)
    rw [hs5] at this
    exact this
  case rest =>
    obtain ⟨t', hE, hS, ht, hg⟩ := hcut
    obtain ⟨c0, c1, c2, c3, c4, c5, c6, c7⟩ := hE.cells
    have f6 := hE.free 6
    have f7 := hE.free 7
    have lg := hE.lt
    have lt := lt_of_block hS
    have hE2 : EdAt ((wc.setCell ⟨g, 6, none⟩ (.int .i64 ((k + 1 : Nat) : Int))).setCell ⟨g, 7, none⟩ (.int .i64 (m : Int))) g b1 x1 y1 (.pointer (some ⟨t', 0, none⟩)) (.pointer R) (k + 1) m := store_in (store_in hE)
    have HE2 := hid hE2
    have HS3 := hid hS
    have HG3 := hid hg
    have q1 : ((m + 1 : Nat) : Int) - 1 = (m : Int) := by omega
    have q2 : (m : Int) + 1 - 1 = (m : Int) := by omega
    have htg : ¬ t' = g := Ne.symm (ed_st_ne hE hS)
    clear hE hS hg hE2
    go_wp2
    exact bodyPost_ret (by simp [results, Tryz.results15, go_sem, *]) rfl ⟨t', rfl, HE2.out, store_off (store_off HS3.out htg) htg, ht, grown_cell (grown_cell HG3.out)⟩
end
end Go.Proofs.YtcfgpmmclijonaaGreatDoor

/- Layer 25: what a key types; a change, whatever it comes to. -/
namespace Go.Proofs.YtcfgpmmclijonaaGreatDoor
set_option linter.unusedVariables false
set_option linter.unusedSimpArgs false
set_option maxRecDepth 100000
open Go.RowKit Go.Shelf Go.Lib
set_option maxRecDepth 100000
set_option maxHeartbeats 8000000

/-- What a key types; bl: with control or alt. -/
def typedE (s : ByteArray) (bl : Bool) : ByteArray :=
  if bl then ⟨#[]⟩
  else if s = ⟨#[101, 110, 116, 101, 114]⟩ then ⟨#[10]⟩
  else if s = ⟨#[116, 97, 98]⟩ then ⟨#[9]⟩
  else if s = ⟨#[115, 112, 97, 99, 101]⟩ then ⟨#[32]⟩
  else if s = ⟨#[112, 108, 117, 115]⟩ then ⟨#[43]⟩
  else if (nextE (pcs s.data.toList) 0).1 = s.size then s else ⟨#[]⟩
theorem typed_any (s : ByteArray) (md : Nat) (w : World) (hs : s.size ≤ 4000000) (bl : Bool) (v6 : Int) (a6 : bits .and .u8 (md : Int) 6 = v6) (h6 : (v6 != 0) = bl) :
    Calls Tryz.prog 33 #[.agg #[.string s, .int .u8 (md : Int)]] w fun e w' => e = .returned (.string (typedE s bl)) ∧ Below w.heap.size w w' := by
  have hB1 := (Below.refl w.heap.size w).alloc (Nat.le_refl _) (.cells #[.string s, .int .u8 (md : Int)] 32)
  cases bl with
  | true =>
    have hG : typedE s true = ⟨#[]⟩ := rfl
    rw [hG]
    go_enter Tryz.func33, Tryz.ntmps33
    go_wp2
    go_ret
    exact ⟨rfl, hB1⟩
  | false =>
  by_cases n1 : s = ⟨#[101, 110, 116, 101, 114]⟩
  · subst n1
    have hG : typedE ⟨#[101, 110, 116, 101, 114]⟩ false = ⟨#[10]⟩ := by decide
    rw [hG]
    go_enter Tryz.func33, Tryz.ntmps33
    go_wp2
    go_ret
    exact ⟨rfl, hB1⟩
  have t1 := str_ne (l := [101, 110, 116, 101, 114]) n1
  by_cases n2 : s = ⟨#[116, 97, 98]⟩
  · subst n2
    have hG : typedE ⟨#[116, 97, 98]⟩ false = ⟨#[9]⟩ := by decide
    rw [hG]
    go_enter Tryz.func33, Tryz.ntmps33
    go_wp2
    go_ret
    exact ⟨rfl, hB1⟩
  have t2 := str_ne (l := [116, 97, 98]) n2
  by_cases n3 : s = ⟨#[115, 112, 97, 99, 101]⟩
  · subst n3
    have hG : typedE ⟨#[115, 112, 97, 99, 101]⟩ false = ⟨#[32]⟩ := by decide
    rw [hG]
    go_enter Tryz.func33, Tryz.ntmps33
    go_wp2
    go_ret
    exact ⟨rfl, hB1⟩
  have t3 := str_ne (l := [115, 112, 97, 99, 101]) n3
  by_cases n4 : s = ⟨#[112, 108, 117, 115]⟩
  · subst n4
    have hG : typedE ⟨#[112, 108, 117, 115]⟩ false = ⟨#[43]⟩ := by decide
    rw [hG]
    go_enter Tryz.func33, Tryz.ntmps33
    go_wp2
    go_ret
    exact ⟨rfl, hB1⟩
  have t4 := str_ne (l := [112, 108, 117, 115]) n4
  have bx1 : Box2 (w.alloc (.cells #[.string s, .int .u8 (md : Int)] 32)) w.heap.size s md := Box2.of_heap (World.alloc_heap_new _ _)
  have hw1 : (w.alloc (.cells #[.string s, .int .u8 (md : Int)] 32)).heap.size = w.heap.size + 1 := World.size_alloc _ _
  have CN := small (Next_any s 0 (w.alloc (.cells #[.string s, .int .u8 (md : Int)] 32)) (by omega)) hs
  obtain ⟨G, hG⟩ : ∃ G, typedE s false = G := ⟨_, rfl⟩
  rw [hG]
  unfold typedE at hG
  rw [if_neg (by decide), if_neg n1, if_neg n2, if_neg n3, if_neg n4] at hG
  obtain ⟨⟨kk, is⟩, he⟩ : ∃ z, nextE (pcs s.data.toList) 0 = z := ⟨_, rfl⟩
  rw [he] at CN hG
  unfold ansV at CN
  simp only at CN hG
  have HG := hid hG
  clear hG he
  by_cases hk : kk = s.size
  · have hG := HG.out
    rw [if_pos hk] at hG
    subst hG
    have q1 : ((kk : Int) == (s.size : Int)) = true := beq_iff_eq.2 (by omega)
    have q2 : (kk : Int) = (s.size : Int) := by omega
    clear HG
    go_enter Tryz.func33, Tryz.ntmps33
    go_wp2_with fail
    with_reducible refine CN.mono ?_
    rintro e w2 ⟨rfl, hb2⟩
    obtain ⟨k0, k1, k2, k3⟩ := bx1.below hb2 (by omega)
    clear CN
    go_wp2
    go_ret
    exact ⟨rfl, hB1.trans (hb2.mono hB1.size)⟩
  · have hG := HG.out
    rw [if_neg hk] at hG
    subst hG
    have q1 : ((kk : Int) == (s.size : Int)) = false := beq_eq_false_iff_ne.2 (by omega)
    have q2 : ¬ (kk : Int) = (s.size : Int) := by omega
    clear HG
    go_enter Tryz.func33, Tryz.ntmps33
    go_wp2_with fail
    with_reducible refine CN.mono ?_
    rintro e w2 ⟨rfl, hb2⟩
    obtain ⟨k0, k1, k2, k3⟩ := bx1.below hb2 (by omega)
    clear CN
    go_wp2
    go_ret
    exact ⟨rfl, hB1.trans (hb2.mono hB1.size)⟩
/-- An editor's state. -/
structure Ed where
  b : ByteArray
  x : Nat
  y : Nat
  p : Option Addr
  q : Option Addr
  k : Nat
  m : Nat
def EdS (w : World) (g : Nat) (E : Ed) : Prop := EdAt w g E.b E.x E.y (.pointer E.p) (.pointer E.q) E.k E.m
def cat3 (b s : ByteArray) (lo hi : Nat) : ByteArray := b.extract 0 lo ++ s ++ b.extract hi b.size
/-- What a change comes to: refused, nothing, or a step. -/
def ChRes (w w' : World) (E : Ed) (s : ByteArray) (lo hi : Nat) (err : Int) (E' : Ed) : Prop :=
  (65536 < E.b.size - (hi - lo) + s.size ∧ err = 3 ∧ E' = E) ∨
  (E.b.size - (hi - lo) + s.size ≤ 65536 ∧ err = 0 ∧ ((lo = hi ∧ s.size = 0 ∧ E' = E) ∨
    (¬ (lo = hi ∧ s.size = 0) ∧ ∃ t z, w.heap.size ≤ t ∧ z = settledE (cat3 E.b s lo hi).data.toList (lo + s.size) ∧ E' = ⟨cat3 E.b s lo hi, z, z, some ⟨t, 0, none⟩, none, E.k + 1, 0⟩ ∧ StAt w' t E.b E.x E.y (cat3 E.b s lo hi) z z (.pointer E.p))))
theorem change_all {w : World} {g : Nat} {E : Ed} (h : EdS w g E) (s : ByteArray) (lo hi : Nat) (hlh : lo ≤ hi) (hhb : hi ≤ E.b.size) (hb : E.b.size ≤ 65536) (hs : s.size ≤ 1000000) (hk : E.k < 256) :
    Calls Tryz.prog 25 #[.pointer (some ⟨g, 0, none⟩), .string s, .int .i64 (lo : Int), .int .i64 (hi : Int)] w fun e w' => ∃ err E', e = .returned (.int .i64 err) ∧ EdS w' g E' ∧ ChRes w w' E s lo hi err E' ∧ w.grownBy w' (some g) := by
  by_cases hl : E.b.size - (hi - lo) + s.size ≤ 65536
  · by_cases hn : lo = hi ∧ s.size = 0
    · obtain ⟨rfl, hn⟩ := hn
      refine (change_none h lo hhb hb s hn).mono ?_
      rintro e w' ⟨rfl, hb'⟩
      exact ⟨0, E, rfl, h.on hb', .inr ⟨hl, rfl, .inl ⟨rfl, hn, rfl⟩⟩, grown_below hb' (World.grownBy.refl _ _)⟩
    · refine (change_any h s lo hi hlh hhb hb hs hl hn hk).mono ?_
      rintro e w' ⟨t, z, rfl, hz, hE, hS, ht, hg⟩
      exact ⟨0, ⟨cat3 E.b s lo hi, z, z, some ⟨t, 0, none⟩, none, E.k + 1, 0⟩, rfl, hE, .inr ⟨hl, rfl, .inr ⟨hn, t, z, ht, hz, rfl, hS⟩⟩, hg⟩
  · refine (change_long h s lo hi hlh hhb hb hs (by omega)).mono ?_
    rintro e w' ⟨rfl, hb'⟩
    exact ⟨3, E, rfl, h.on hb', .inl ⟨by omega, rfl, rfl⟩, grown_below hb' (World.grownBy.refl _ _)⟩
end Go.Proofs.YtcfgpmmclijonaaGreatDoor

/- Layer 25: the frame of Key: what it makes, and how it is left. -/
namespace Go.Proofs.YtcfgpmmclijonaaGreatDoor
set_option linter.unusedVariables false
set_option linter.unusedSimpArgs false
set_option maxRecDepth 100000
open Go.RowKit Go.Shelf Go.Lib
set_option maxRecDepth 100000
set_option maxHeartbeats 8000000

theorem nm_len {l : By} (h : nmB l = true) : l.length ≤ 16 := by
  unfold nmB at h
  rw [Bool.or_eq_true] at h
  rcases h with h | h
  · have h := of_decide_eq_true h
    have key : ∀ l ∈ wordsL, l.length ≤ 16 := by decide
    exact key l h
  · unfold runeOk at h
    have h := of_decide_eq_true h
    have := wd_four l
    omega
theorem md_bits : ∀ m : Fin 8, (bits .and .u8 (m.val : Int) 4 != 0) = altB m.val ∧ (bits .and .u8 (m.val : Int) 4 == 0) = (!altB m.val) ∧ (bits .and .u8 (m.val : Int) 2 != 0) = ctrlB m.val ∧ (bits .and .u8 (m.val : Int) 1 != 0) = shiftB m.val ∧
    (bits .and .u8 (m.val : Int) 3 == 0) = (!shiftB m.val && !ctrlB m.val) ∧ (bits .and .u8 (m.val : Int) 6 != 0) = (ctrlB m.val || altB m.val) := by decide +kernel
theorem leftE_le (l : By) (a : Nat) : leftE l a ≤ a := by
  unfold leftE backE
  cases h : hix (pcs l) ((a : Int) - 1) with
  | none => exact Nat.le_refl _
  | some i =>
    have hi := hix_lt h
    unfold hix at h
    have := List.find?_some h
    unfold InP at this
    rw [Bool.and_eq_true] at this
    have := of_decide_eq_true this.1
    simp only [if_true]
    omega
theorem hix_in_of {P : List (Nat × Nat)} {a : Int} {i : Nat} (h : hix P a = some i) : (off P i : Int) ≤ a ∧ a < (off P (i + 1) : Int) := by
  unfold hix at h
  have := List.find?_some h
  unfold InP at this
  rw [Bool.and_eq_true] at this
  exact ⟨of_decide_eq_true this.1, of_decide_eq_true this.2⟩
theorem rightE_ge (l : By) {a : Nat} (ha : a ≤ l.length) : a ≤ rightE l a ∧ rightE l a ≤ l.length := by
  unfold rightE nextE
  cases h : hix (pcs l) (a : Int) with
  | none => exact ⟨Nat.le_refl _, ha⟩
  | some i =>
    have := hix_in_of h
    have := off_end l (i + 1)
    simp only [if_true]
    omega
theorem rwordE_ge (l : By) {a : Nat} (ha : a ≤ l.length) : a ≤ rwordE l a ∧ rwordE l a ≤ l.length := by
  unfold rwordE wordE
  cases h : hix (pcs l) (a : Int) with
  | none => exact ⟨Nat.le_refl _, ha⟩
  | some i =>
    have h1 := hix_in_of h
    have h2 := off_end l (wend kd (pcs l) (pcs l).length i + 1)
    have h3 : ∀ (f i : Nat), i ≤ wend kd (pcs l) f i := by
      intro f
      induction f with
      | zero => intro i; exact Nat.le_refl _
      | succ f ih =>
        intro i
        unfold wend
        split
        · split
          · have := ih (i + 1); omega
          · exact Nat.le_refl _
        · exact Nat.le_refl _
    have h4 := off_mono (pcs l) (Nat.succ_le_succ (h3 (pcs l).length i))
    simp only [if_true]
    simp only [Nat.succ_eq_add_one] at h4
    omega
theorem lrowF_le (l : By) (a : Nat) : ∀ (f k u : Nat), u ≤ a → lrowF l a f k u ≤ a
  | 0, _, _, h => h
  | f + 1, k, u, h => by
    unfold lrowF
    split
    · exact lrowF_le l a f _ k (by omega)
    · exact h
theorem lrowE_le (l : By) (a : Nat) : lrowE l a ≤ a := lrowF_le l a _ _ _ (Nat.zero_le _)

inductive KAct where
  | go (x y : Nat)
  | ed (s : ByteArray) (lo hi : Nat)
  | no
def bsB : ByteArray := ⟨#[98, 97, 99, 107, 115, 112, 97, 99, 101]⟩
def deB : ByteArray := ⟨#[100, 101, 108, 101, 116, 101]⟩
/-- What is done by a key that may be and is neither 'ctrl+z' nor 'ctrl+y' nor 'ctrl+shift+z'. -/
def keyE (b : ByteArray) (x y : Nat) (s : ByteArray) (md : Nat) : KAct :=
  match goesE b x y s (altB md) (ctrlB md) (!shiftB md && !ctrlB md) with
  | some z => .go z (if shiftB md then y else z)
  | none =>
    if (decide (s = bsB) && !altB md) = true then .ed ⟨#[]⟩ (if min x y = max x y then (if ctrlB md then lrowE b.data.toList (max x y) else leftE b.data.toList (max x y)) else min x y) (max x y)
    else if (decide (s = deB) && !altB md) = true then .ed ⟨#[]⟩ (min x y) (if min x y = max x y then (if ctrlB md then rwordE b.data.toList (min x y) else rightE b.data.toList (min x y)) else max x y)
    else if (decide (s = ⟨#[97]⟩) && decide (md = 2)) = true then .go b.size 0
    else if (typedE s (ctrlB md || altB md)).size = 0 then .no
    else .ed (typedE s (ctrlB md || altB md)) (min x y) (max x y)
def KRes (w w' : World) (E : Ed) (a : KAct) (err : Int) (E' : Ed) : Prop :=
  match a with
  | .go x y => err = 0 ∧ E' = { E with x := x, y := y }
  | .no => err = 0 ∧ E' = E
  | .ed s lo hi => ChRes w w' E s lo hi err E'
theorem keyd_err {w : World} {bR bE bB bD : Nat} {r : Int} (u : FrameMode) (cR : w.cell? ⟨bR, 0, none⟩ = some (.int .i64 r)) (hr : ¬ r = 0)
    (hD : w.heap[bD]? = some (.cells #[.bool false] 4 (0, 0))) :
    CallsD Tryz.prog 28 #[.pointer (some ⟨bR, 0, none⟩), .pointer (some ⟨bE, 0, none⟩), .pointer (some ⟨bB, 0, none⟩), .pointer (some ⟨bD, 0, none⟩)] u w fun e u' w' => u' = u ∧ (e = .returned (.tuple #[]) ∧ w'.heap[bD]? = some (.cells #[.bool false] 4 (0, 0)) ∧
      Turn (fun j => j = bD) w w') := by
  have lD := lt_of_block hD
  have lR : bR < w.heap.size := World.block_lt_of_cell? _ _ cR
  have HD := hid hD
  have hr2 : (r == 0) = false := beq_eq_false_iff_ne.2 hr
  clear hD
  go_enter_d Tryz.func28, Tryz.ntmps28
  go_wp2
  refine region_ext_last 1 mixed (by kernel_rfl) ?_
  simp only [List.length_cons, List.length_nil, Nat.reduceAdd, Nat.reduceSub, List.take_succ_cons, List.take_zero, List.drop_succ_cons, List.drop_zero]
  (repeat (go_big_quiet_step (fail)))
  refine wpQuiet_nil ?_
  intro w4 hb4
  have hD4 := (hb4.block _ lD).trans HD.out
  have e0 : w4.cell? ⟨bD, 0, none⟩ = some (.bool false) := by rw [blk_cell hD4]; rfl
  have e1 := blk_frozen hD4 0
  have hD5 : (w4.setCell ⟨bD, 0, none⟩ (.bool false)).heap[bD]? = some (.cells #[.bool false] 4 (0, 0)) := store_in hD4
  have HD5 := hid hD5
  have HB4 := hid hb4
  clear cR hD4 hD5 hb4
  go_wp2
  go_end0
  exact ⟨rfl, HD5.out, (Turn.of_below HB4.out).trans (Turn.set (C := fun j => j = bD) (p := ⟨bD, 0, none⟩) rfl _)⟩
/-- What Key has made: the box of its editor, of the key, of its two results; the text ahead of it. -/
structure KB (b0 bB g : Nat) (s : ByteArray) (md : Nat) (E : Ed) (M : World) : Prop where
  n0 : M.heap[b0]? = some (.cells #[.pointer (some ⟨g, 0, none⟩)] 23 (0, 0))
  n1 : M.heap[b0 + 1]? = some (.cells #[.string s, .int .u8 (md : Int)] 32 (0, 0))
  n2 : M.heap[b0 + 1 + 1]? = some (.cells #[.bool false] 4 (0, 0))
  n3 : M.heap[b0 + 1 + 1 + 1]? = some (.cells #[.int .i64 0] 24 (0, 0))
  nB : M.heap[bB]? = some (.cells #[.string E.b, .int .i64 (E.x : Int), .int .i64 (E.y : Int)] 39 (0, 0))
section
variable {b0 bB g : Nat} {s : ByteArray} {md : Nat} {E : Ed} {M M' : World}
theorem KB.on (h : KB b0 bB g s md E M) (hb : Below M.heap.size M M') : KB b0 bB g s md E M' :=
  ⟨(hb.block _ (lt_of_block h.n0)).trans h.n0, (hb.block _ (lt_of_block h.n1)).trans h.n1, (hb.block _ (lt_of_block h.n2)).trans h.n2, (hb.block _ (lt_of_block h.n3)).trans h.n3, (hb.block _ (lt_of_block h.nB)).trans h.nB⟩
theorem KB.grown (h : KB b0 bB g s md E M) (hg : M.grownBy M' (some g)) (h0 : g < b0) (h1 : g < bB) : KB b0 bB g s md E M' := by
  have hgn : ∀ j, g < j → some j ≠ some g := fun j hj e => by
    injection e with e
    omega
  exact ⟨(hg.block _ (lt_of_block h.n0) (hgn _ (by omega))).trans h.n0, (hg.block _ (lt_of_block h.n1) (hgn _ (by omega))).trans h.n1, (hg.block _ (lt_of_block h.n2) (hgn _ (by omega))).trans h.n2, (hg.block _ (lt_of_block h.n3) (hgn _ (by omega))).trans h.n3, (hg.block _ (lt_of_block h.nB) (hgn _ (by omega))).trans h.nB⟩
theorem KB.cells (h : KB b0 bB g s md E M) : M.cell? ⟨b0, 0, none⟩ = some (.pointer (some ⟨g, 0, none⟩)) ∧ M.cell? ⟨b0 + 1, 0, none⟩ = some (.string s) ∧ M.cell? ⟨b0 + 1, 1, none⟩ = some (.int .u8 (md : Int)) ∧ M.cell? ⟨b0 + 1 + 1, 0, none⟩ = some (.bool false) ∧
    M.cell? ⟨b0 + 1 + 1 + 1, 0, none⟩ = some (.int .i64 0) ∧ M.frozen? ⟨b0 + 1 + 1, 0, none⟩ = false ∧ M.frozen? ⟨b0 + 1 + 1 + 1, 0, none⟩ = false :=
  ⟨by rw [blk_cell h.n0]; rfl, by rw [blk_cell h.n1]; rfl, by rw [blk_cell h.n1]; rfl, by rw [blk_cell h.n2]; rfl, by rw [blk_cell h.n3]; rfl, blk_frozen h.n2 0, blk_frozen h.n3 0⟩
def KLeft (w : World) (b0 g : Nat) (E : Ed) (M : World) (E' : Ed) (err : Int) (w' : World) : Prop :=
  EdS w' g E' ∧ w'.cell? ⟨b0 + 1 + 1 + 1, 0, none⟩ = some (.int .i64 err) ∧ w'.cell? ⟨b0 + 1 + 1, 0, none⟩ = some (.bool (decide (err = 0) && !txEq E'.b E.b (E'.x : Int) (E.x : Int) (E'.y : Int) (E.y : Int))) ∧ w.grownBy w' (some g) ∧
    ∀ j, j < M.heap.size → j ≠ b0 + 1 + 1 → j ≠ b0 + 1 + 1 + 1 → w'.heap[j]? = M.heap[j]?
theorem key_fin {w : World} {E' : Ed} (h : KB b0 bB g s md E M) (hE : EdS M g E') (hM : w.grownBy M (some g)) (h0 : w.heap.size = b0) (h1 : w.heap.size + 4 ≤ bB) (h2 : g < w.heap.size) (err : Int) :
    CallsD Tryz.prog 28 #[.pointer (some ⟨b0 + 1 + 1 + 1, 0, none⟩), .pointer (some ⟨b0, 0, none⟩), .pointer (some ⟨bB, 0, none⟩), .pointer (some ⟨b0 + 1 + 1, 0, none⟩)] .returning
      ((M.setCell ⟨b0 + 1 + 1, 0, none⟩ (.bool false)).setCell ⟨b0 + 1 + 1 + 1, 0, none⟩ (.int .i64 err)) fun e u' w' => u' = .returning ∧ (e = .returned (.tuple #[]) ∧ KLeft w b0 g E M E' err w') := by
  obtain ⟨L, hL⟩ : ∃ L, (M.setCell ⟨b0 + 1 + 1, 0, none⟩ (.bool false)).setCell ⟨b0 + 1 + 1 + 1, 0, none⟩ (.int .i64 err) = L := ⟨_, rfl⟩
  have hE7 : EdS L g E' := by
    rw [← hL]
    exact store_off (store_off hE (by omega)) (by omega)
  have hB7 : L.heap[bB]? = some (.cells #[.string E.b, .int .i64 (E.x : Int), .int .i64 (E.y : Int)] 39 (0, 0)) := by
    rw [← hL]
    exact store_off (store_off h.nB (by omega)) (by omega)
  have h07 : L.heap[b0]? = some (.cells #[.pointer (some ⟨g, 0, none⟩)] 23 (0, 0)) := by
    rw [← hL]
    exact store_off (store_off h.n0 (by omega)) (by omega)
  have h27 : L.heap[b0 + 1 + 1]? = some (.cells #[.bool false] 4 (0, 0)) := by
    rw [← hL]
    exact store_off (store_in h.n2) (by omega)
  have h37 : L.heap[b0 + 1 + 1 + 1]? = some (.cells #[.int .i64 err] 24 (0, 0)) := by
    rw [← hL]
    exact store_in (store_off h.n3 (by omega))
  have hg7 : w.grownBy L (some g) := by
    rw [← hL]
    exact grown_new (grown_new hM (by omega)) (by omega)
  have hk7 : ∀ j, j ≠ b0 + 1 + 1 → j ≠ b0 + 1 + 1 + 1 → L.heap[j]? = M.heap[j]? := fun j q1 q2 => by
    rw [← hL, heap_setCell_other _ _ _ _ q2, heap_setCell_other _ _ _ _ q1]
  have hs7 : L.heap.size = M.heap.size := by rw [← hL]; simp
  rw [hL]
  have fin : ∀ (o : Bool) (w' : World), w'.heap[b0 + 1 + 1]? = some (.cells #[.bool o] 4 (0, 0)) → Turn (fun j => j = b0 + 1 + 1) L w' → o = (decide (err = 0) && !txEq E'.b E.b (E'.x : Int) (E.x : Int) (E'.y : Int) (E.y : Int)) → KLeft w b0 g E M E' err w' := by
    intro o w' q1 T8 q2
    have r3 := (T8.block _ (lt_of_block h37) (by omega)).trans h37
    refine ⟨?_, by rw [blk_cell r3]; rfl, by rw [blk_cell q1, ← q2]; rfl, ⟨T8.os.trans hg7.os, T8.tape.trans hg7.tape, T8.output.trans hg7.output, Nat.le_trans hg7.size T8.size, fun j hj hn => ?_⟩, fun j q3 q4 q5 => ?_⟩
    · unfold EdS EdAt
      rw [T8.block g (by have := hg7.size; omega) (by omega)]
      exact hE7
    · rw [T8.block j (by have := hg7.size; omega) (by omega)]
      exact hg7.block j hj hn
    · rw [T8.block j (by omega) q4]
      exact hk7 j q4 q5
  by_cases he : err = 0
  · subst he
    refine (keyd_any .returning hE7 hB7 (by rw [blk_cell h37]; rfl) (by rw [blk_cell h07]; rfl) h27 _ rfl).mono ?_
    rintro e u' w' ⟨rfl, rfl, q1, q2⟩
    exact ⟨rfl, rfl, fin _ w' q1 q2 (by simp)⟩
  · refine (keyd_err .returning (by rw [blk_cell h37]; rfl) he h27).mono ?_
    rintro e u' w' ⟨rfl, rfl, q1, q2⟩
    exact ⟨rfl, rfl, fin _ w' q1 q2 (by simp [he])⟩
theorem ChRes.lift {w w5 w' : World} {E' : Ed} {t : ByteArray} {lo hi : Nat} {err : Int} (h : ChRes w5 M E t lo hi err E') (hw : w.heap.size ≤ w5.heap.size) (kb : KB b0 bB g s md E M) (hk : ∀ j, j < M.heap.size → j ≠ b0 + 1 + 1 → j ≠ b0 + 1 + 1 + 1 → w'.heap[j]? = M.heap[j]?) : ChRes w w' E t lo hi err E' := by
  rcases h with h | ⟨h1, h2, h3 | ⟨h3, t, z, h4, h5, h6, h7⟩⟩
  · exact .inl h
  · exact .inr ⟨h1, h2, .inl h3⟩
  · refine .inr ⟨h1, h2, .inr ⟨h3, t, z, Nat.le_trans hw h4, h5, h6, ?_⟩⟩
    have n2 : t ≠ b0 + 1 + 1 := by
      intro e
      have := kb.n2
      unfold StAt at h7
      rw [← e, h7] at this
      simp [stC] at this
    have n3 : t ≠ b0 + 1 + 1 + 1 := by
      intro e
      have := kb.n3
      unfold StAt at h7
      rw [← e, h7] at this
      simp [stC] at this
    unfold StAt at h7 ⊢
    rw [hk t (lt_of_block h7) n2 n3]
    exact h7
end
end Go.Proofs.YtcfgpmmclijonaaGreatDoor
