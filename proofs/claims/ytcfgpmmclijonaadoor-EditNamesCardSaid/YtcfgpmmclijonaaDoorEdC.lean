/- Layer 25: a change's deferred step, change, Type. -/
import Derived.Test.YtcfgpmmclijonaaDoorEdAb
import Derived.Test.YtcfgpmmclijonaaDoorRf
import Derived.Defers
import Derived.Recover
namespace Go.Proofs.YtcfgpmmclijonaaDoor
set_option linter.unusedVariables false
set_option linter.unusedSimpArgs false
set_option maxRecDepth 100000
open Go.RowKit Go.Shelf Go.Lib
set_option maxRecDepth 100000
set_option maxHeartbeats 8000000

def stC (b0 : ByteArray) (x0 y0 : Nat) (b1 : ByteArray) (x1 y1 : Nat) (r : Value) : Array Value := #[.string b0, .int .i64 (x0 : Int), .int .i64 (y0 : Int), .string b1, .int .i64 (x1 : Int), .int .i64 (y1 : Int), r]
/-- A step. -/
def StAt (w : World) (t : Nat) (b0 : ByteArray) (x0 y0 : Nat) (b1 : ByteArray) (x1 y1 : Nat) (r : Value) : Prop := w.heap[t]? = some (.cells (stC b0 x0 y0 b1 x1 y1 r) 69 (0, 0))
theorem StAt.on {w w' : World} {t : Nat} {b0 : ByteArray} {x0 y0 : Nat} {b1 : ByteArray} {x1 y1 : Nat} {r : Value} (h : StAt w t b0 x0 y0 b1 x1 y1 r) (hb : Below w.heap.size w w') : StAt w' t b0 x0 y0 b1 x1 y1 r := by
  unfold StAt
  rw [hb.block _ (lt_of_block h)]
  exact h
theorem StAt.cells {w : World} {t : Nat} {b0 : ByteArray} {x0 y0 : Nat} {b1 : ByteArray} {x1 y1 : Nat} {r : Value} (h : StAt w t b0 x0 y0 b1 x1 y1 r) : w.cell? ⟨t, 0, none⟩ = some (.string b0) ∧ w.cell? ⟨t, 1, none⟩ = some (.int .i64 (x0 : Int)) ∧ w.cell? ⟨t, 2, none⟩ = some (.int .i64 (y0 : Int)) ∧
    w.cell? ⟨t, 3, none⟩ = some (.string b1) ∧ w.cell? ⟨t, 4, none⟩ = some (.int .i64 (x1 : Int)) ∧ w.cell? ⟨t, 5, none⟩ = some (.int .i64 (y1 : Int)) ∧ w.cell? ⟨t, 6, none⟩ = some r :=
  ⟨by rw [blk_cell h]; rfl, by rw [blk_cell h]; rfl, by rw [blk_cell h]; rfl, by rw [blk_cell h]; rfl, by rw [blk_cell h]; rfl, by rw [blk_cell h]; rfl, by rw [blk_cell h]; rfl⟩
theorem EdAt.below {B : Nat} {w w' : World} {g : Nat} {b : ByteArray} {x y : Nat} {p q : Value} {k m : Nat} (h : EdAt w g b x y p q k m) (hb : Below B w w') (hg : g < B) : EdAt w' g b x y p q k m := by
  unfold EdAt
  rw [hb.block _ hg]
  exact h
theorem two_allocs (W : World) (o1 o2 : Obj) {n : Nat} (hn : W.heap.size = n) : ((W.alloc o1).alloc o2).drew.heap[n]? = some o1 ∧ ((W.alloc o1).alloc o2).drew.heap[n + 1]? = some o2 ∧ Below n W ((W.alloc o1).alloc o2).drew := by
  subst hn
  refine ⟨?_, ?_, (((Below.refl _ _).alloc (Nat.le_refl _) _).alloc (by simp) _).drew⟩
  · show ((W.alloc o1).alloc o2).heap[W.heap.size]? = _
    rw [Below.heap_alloc _ _ _ (by simp)]
    exact World.alloc_heap_new _ _
  · show ((W.alloc o1).alloc o2).heap[W.heap.size + 1]? = _
    have := World.alloc_heap_new (W.alloc o1) o2
    rwa [World.size_alloc] at this
section
variable {w : World} {g t bE bO : Nat} {b b0 b1 : ByteArray} {x y x0 y0 x1 y1 : Nat} {p q r : Value} {k m : Nat}
theorem chg_any (u : FrameMode) (hE : EdAt w g b x y p q k m) (hS : StAt w t b0 x0 y0 b1 x1 y1 r) (hgt : g ≠ t) (cE : w.cell? ⟨bE, 0, none⟩ = some (.pointer (some ⟨g, 0, none⟩))) (cO : w.cell? ⟨bO, 0, none⟩ = some (.pointer (some ⟨t, 0, none⟩)))
    (nE : bE ≠ g ∧ bE ≠ t) (nO : bO ≠ g ∧ bO ≠ t) (hk : k < 256) :
    CallsD Tryd.prog 43 #[.pointer (some ⟨bE, 0, none⟩), .pointer (some ⟨bO, 0, none⟩)] u w fun e u' w' => u' = u ∧ (e = .returned (.tuple #[]) ∧ EdAt w' g b x y (.pointer (some ⟨t, 0, none⟩)) (.pointer none) (k + 1) 0 ∧ StAt w' t b0 x0 y0 b x y r ∧
      Turn (fun j => j = g ∨ j = t) w w') := by
  have HE := hid hE
  have HS := hid hS
  obtain ⟨c0, c1, c2, c3, c4, c5, c6, c7⟩ := hE.cells
  obtain ⟨s0, s1, s2, s3, s4, s5, s6⟩ := hS.cells
  have lg := hE.lt
  have lt := lt_of_block hS
  have lE : bE < w.heap.size := World.block_lt_of_cell? _ _ cE
  have lO : bO < w.heap.size := World.block_lt_of_cell? _ _ cO
  have CE := hid cE
  have CO := hid cO
  have k1 : decide ((256 : Int) < (k : Int) + 1) = false := decide_eq_false (by omega)
  have k2 : ¬ (256 : Int) < (k : Int) + 1 := by omega
  clear hE hS
  go_enter_d Tryd.func43, Tryd.ntmps43
  go_wp2
  refine region_ext_last 1 mixed (by kernel_rfl) ?_
  simp only [List.length_cons, List.length_nil, Nat.reduceAdd, Nat.reduceSub, List.take_succ_cons, List.take_zero, List.drop_succ_cons, List.drop_zero]
  (repeat (go_big_quiet_step (fail)))
  refine wpQuiet_nil ?_
  intro w4 hb4
  clear c0 c1 c2 c3 c4 c5 c6 c7 s0 s1 s2 s3 s4 s5 s6 cE cO
  have hE := HE.out.on hb4
  have hS := HS.out.on hb4
  obtain ⟨c0, c1, c2, c3, c4, c5, c6, c7⟩ := hE.cells
  obtain ⟨s0, s1, s2, s3, s4, s5, s6⟩ := hS.cells
  have f := hE.free
  have fs := fun i => blk_frozen hS i
  have cE : w4.cell? ⟨bE, 0, none⟩ = some (.pointer (some ⟨g, 0, none⟩)) := by rw [hb4.cell lE]; exact CE.out
  have cO : w4.cell? ⟨bO, 0, none⟩ = some (.pointer (some ⟨t, 0, none⟩)) := by rw [hb4.cell lO]; exact CO.out
  have H4 := hid hE
  have S4 := hid hS
  have HB4 := hid hb4
  obtain ⟨n1, n2⟩ := nE
  obtain ⟨n3, n4⟩ := nO
  have n5 := Ne.symm n1
  have n6 := Ne.symm n2
  have n7 := Ne.symm n3
  have n8 := Ne.symm n4
  have n9 := Ne.symm hgt
  clear hE hS hb4
  go_wp2
  go_end0
  refine ⟨rfl, ?_, ?_, ?_⟩
  · exact store_in (store_in (store_in (store_in (store_off (store_off (store_off H4.out hgt) hgt) hgt))))
  · exact store_off (store_off (store_off (store_off (store_in (store_in (store_in S4.out))) n9) n9) n9) n9
  · exact (((((((Turn.of_below HB4.out).trans (Turn.set (p := ⟨t, 3, none⟩) (Or.inr rfl) _)).trans (Turn.set (p := ⟨t, 4, none⟩) (Or.inr rfl) _)).trans (Turn.set (p := ⟨t, 5, none⟩) (Or.inr rfl) _)).trans (Turn.set (p := ⟨g, 4, none⟩) (Or.inl rfl) _)).trans (Turn.set (p := ⟨g, 5, none⟩) (Or.inl rfl) _)).trans (Turn.set (p := ⟨g, 7, none⟩) (Or.inl rfl) _)).trans (Turn.set (p := ⟨g, 6, none⟩) (Or.inl rfl) _)
theorem change_long (h : EdAt w g b x y p q k m) (s : ByteArray) (lo hi : Nat) (hlh : lo ≤ hi) (hhb : hi ≤ b.size) (hb : b.size ≤ 65536) (hs : s.size ≤ 1000000) (hl : 65536 < b.size - (hi - lo) + s.size) :
    Calls Tryd.prog 30 #[.pointer (some ⟨g, 0, none⟩), .string s, .int .i64 (lo : Int), .int .i64 (hi : Int)] w fun e w' => e = .returned (.int .i64 3) ∧ Below w.heap.size w w' := by
  have hB1 := (Below.refl w.heap.size w).alloc (Nat.le_refl _) (.cells #[.pointer (some ⟨g, 0, none⟩)] 22)
  have h1 := h.on hB1
  obtain ⟨c0, c1, c2, c3, c4, c5, c6, c7⟩ := h1.cells
  have lg := h.lt
  have k1 : decide ((65536 : Int) < (b.size : Int) - ((hi : Int) - (lo : Int)) + (s.size : Int)) = true := decide_eq_true (by omega)
  have k2 : (65536 : Int) < (b.size : Int) - ((hi : Int) - (lo : Int)) + (s.size : Int) := by omega
  clear h h1
  have hmf : ∀ (fn : Fn) (first cap : Array Value) (w : World), (Instr.makeFunc fn first cap).run Tryd.prog w = .ok (.func fn first cap) w := fun _ _ _ _ => rfl
  go_enter_defers Tryd.func30, Tryd.ntmps30
  go_wp2
  exact ⟨.int .i64 3, by simp [results, Tryd.results30, go_sem], rfl, hB1⟩
theorem change_none (h : EdAt w g b x y p q k m) (lo : Nat) (hhb : lo ≤ b.size) (hb : b.size ≤ 65536) (s : ByteArray) (hs : s.size = 0) :
    Calls Tryd.prog 30 #[.pointer (some ⟨g, 0, none⟩), .string s, .int .i64 (lo : Int), .int .i64 (lo : Int)] w fun e w' => e = .returned (.int .i64 0) ∧ Below w.heap.size w w' := by
  have hB1 := (Below.refl w.heap.size w).alloc (Nat.le_refl _) (.cells #[.pointer (some ⟨g, 0, none⟩)] 22)
  have h1 := h.on hB1
  obtain ⟨c0, c1, c2, c3, c4, c5, c6, c7⟩ := h1.cells
  have lg := h.lt
  have hse : (s.toList == []) = true := by
    rw [ByteArray.toList_eq, List.eq_nil_of_length_eq_zero (show s.data.toList.length = 0 by rw [ba_len]; exact hs)]
    rfl
  have k1 : decide ((65536 : Int) < (b.size : Int) - ((lo : Int) - (lo : Int)) + (s.size : Int)) = false := decide_eq_false (by omega)
  have k2 : ¬ (65536 : Int) < (b.size : Int) - ((lo : Int) - (lo : Int)) + (s.size : Int) := by omega
  have k3 : ¬ (65536 : Int) < (b.size : Int) := by omega
  have k4 : decide ((65536 : Int) < (b.size : Int)) = false := decide_eq_false k3
  have k5 : ¬ (65536 : Int) < (b.size : Int) + (s.size : Int) := by omega
  have k6 : decide ((65536 : Int) < (b.size : Int) + (s.size : Int)) = false := decide_eq_false k5
  clear h h1
  have hmf : ∀ (fn : Fn) (first cap : Array Value) (w : World), (Instr.makeFunc fn first cap).run Tryd.prog w = .ok (.func fn first cap) w := fun _ _ _ _ => rfl
  go_enter_defers Tryd.func30, Tryd.ntmps30
  go_wp2
  exact ⟨.int .i64 0, by simp [results, Tryd.results30, go_sem], rfl, hB1⟩
theorem change_any {P : Option Addr} (h : EdAt w g b x y (.pointer P) q k m) (s : ByteArray) (lo hi : Nat) (hlh : lo ≤ hi) (hhb : hi ≤ b.size) (hb : b.size ≤ 65536) (hs : s.size ≤ 1000000) (hl : b.size - (hi - lo) + s.size ≤ 65536) (hd : ¬ (lo = hi ∧ s.size = 0)) (hk : k < 256) :
    Calls Tryd.prog 30 #[.pointer (some ⟨g, 0, none⟩), .string s, .int .i64 (lo : Int), .int .i64 (hi : Int)] w fun e w' => ∃ t z, e = .returned (.int .i64 0) ∧ z = settledE (b.extract 0 lo ++ s ++ b.extract hi b.size).data.toList (lo + s.size) ∧
      EdAt w' g (b.extract 0 lo ++ s ++ b.extract hi b.size) z z (.pointer (some ⟨t, 0, none⟩)) (.pointer none) (k + 1) 0 ∧ StAt w' t b x y (b.extract 0 lo ++ s ++ b.extract hi b.size) z z (.pointer P) ∧ w.heap.size ≤ t ∧ w.grownBy w' (some g) := by
  have hB1 := (Below.refl w.heap.size w).alloc (Nat.le_refl _) (.cells #[.pointer (some ⟨g, 0, none⟩)] 22)
  have hr : (w.alloc (.cells #[.pointer (some ⟨g, 0, none⟩)] 22)).heap[w.heap.size]? = some (.cells #[.pointer (some ⟨g, 0, none⟩)] 22 (0, 0)) := World.alloc_heap_new _ _
  have h1 := h.on hB1
  obtain ⟨c0, c1, c2, c3, c4, c5, c6, c7⟩ := h1.cells
  have cE := blk_cell hr 0
  have lg := h.lt
  have lg1 : g < w.heap.size + 1 := by omega
  have lE : w.heap.size < w.heap.size + 1 := by omega
  have H1 := hid h1
  have HR := hid hr
  have k1 : decide ((65536 : Int) < (b.size : Int) - ((hi : Int) - (lo : Int)) + (s.size : Int)) = false := decide_eq_false (by omega)
  have k2 : ¬ (65536 : Int) < (b.size : Int) - ((hi : Int) - (lo : Int)) + (s.size : Int) := by omega
  have hse : (s.toList == []) = decide (s.size = 0) := by
    rw [ByteArray.toList_eq, ← ba_len]
    cases s.data.toList <;> simp
  have hcase : (((lo : Int) == (hi : Int)) = false) ∨ (((lo : Int) == (hi : Int)) = true ∧ (s.toList == []) = false) := by
    by_cases h : lo = hi
    · exact .inr ⟨beq_iff_eq.2 (by omega), by rw [hse]; exact decide_eq_false (fun h' => hd ⟨h, h'⟩)⟩
    · exact .inl (beq_eq_false_iff_ne.2 (by omega))
  have hmf : ∀ (fn : Fn) (first cap : Array Value) (w : World), (Instr.makeFunc fn first cap).run Tryd.prog w = .ok (.func fn first cap) w := fun _ _ _ _ => rfl
  clear h h1 hr hse hd
  go_enter_defers Tryd.func30, Tryd.ntmps30
  rcases hcase with q1 | ⟨q1, q2⟩
  all_goals
    go_upto_region 6 with fail
    go_cut [10] from 34 to 44 (fun v wx => ∃ t bO, v = .pointer (some ⟨bO, 0, none⟩) ∧ w.heap.size + 1 ≤ t ∧ w.heap.size + 1 ≤ bO ∧ t ≠ bO ∧ StAt wx t b x y { data := #[] } 0 0 (.pointer P) ∧ wx.heap[bO]? = some (.cells #[.pointer (some ⟨t, 0, none⟩)] 54 (0, 0)) ∧ Below (w.heap.size + 1) (w.alloc (.cells #[.pointer (some ⟨g, 0, none⟩)] 22)) wx)
    case first =>
      have hmx := mixed
      go_region
      all_goals go_wp2
      all_goals go_meet
      all_goals
        first
          | (obtain ⟨a1, a2, a3⟩ := two_allocs (w.alloc (.cells #[.pointer (some ⟨g, 0, none⟩)] 22)) (.cells (stC b x y { data := #[] } 0 0 (.pointer P)) 69) (.cells #[.pointer (some ⟨w.heap.size + 1, 0, none⟩)] 54) (World.size_alloc _ _)
             exact ⟨w.heap.size + 1, w.heap.size + 1 + 1, rfl, by omega, by omega, by omega, a1, a2, a3⟩)
          | (obtain ⟨a1, a2, a3⟩ := two_allocs (w.alloc (.cells #[.pointer (some ⟨g, 0, none⟩)] 22)) (.cells #[.pointer (some ⟨w.heap.size + 1 + 1, 0, none⟩)] 54) (.cells (stC b x y { data := #[] } 0 0 (.pointer P)) 69) (World.size_alloc _ _)
             exact ⟨w.heap.size + 1 + 1, w.heap.size + 1, rfl, by omega, by omega, by omega, a2, a1, a3⟩)
          | trace_state
    case rest =>
      obtain ⟨t, bO, rfl, ht, hbo, hne, hS, hO, hbx⟩ := hcut
      clear c0 c1 c2 c3 c4 c5 c6 c7 cE
      have hE := H1.out.below hbx lg1
      have hbox := (hbx.block w.heap.size lE).trans HR.out
      obtain ⟨c0, c1, c2, c3, c4, c5, c6, c7⟩ := hE.cells
      have cE : wc.cell? ⟨w.heap.size, 0, none⟩ = some (.pointer (some ⟨g, 0, none⟩)) := by rw [blk_cell hbox 0]; rfl
      have lgx := hE.lt
      have lEx : w.heap.size < wc.heap.size := lt_of_block hbox
      have HE := hid hE
      have HS := hid hS
      have HO := hid hO
      have HBX := hid hbx
      have HBOX := hid hbox
      clear hE hS hO hbx hbox
      have v1 : ¬ 9223372036854775807 < lo + s.size := by omega
      have v2 : ¬ 9223372036854775807 < lo + s.size + (b.size - hi) := by omega
      have v3 : (lo : Int) ≤ (b.size : Int) := by omega
      have v4 : (hi : Int) ≤ (b.size : Int) := by omega
      have v5 : lo ≤ b.size := by omega
      go_wp2
      refine region_ext_last 1 mixed (by kernel_rfl) ?_
      simp only [List.length_cons, List.length_nil, Nat.reduceAdd, Nat.reduceSub, List.take_succ_cons, List.take_zero, List.drop_succ_cons, List.drop_zero]
      (repeat (go_big_quiet_step (fail)))
      refine wpQuiet_nil ?_
      intro w4 hb4
      clear c0 c1 c2 c3 c4 c5 c6 c7 cE
      have hE4 := HE.out.on hb4
      have f1 := hE4.free 1
      have c1 := hE4.cells.2.1
      have hE5 : EdAt (w4.setCell ⟨g, 1, none⟩ (.string (b.extract 0 lo ++ s ++ b.extract hi b.size))) g (b.extract 0 lo ++ s ++ b.extract hi b.size) x y (.pointer P) q k m := store_in hE4
      have hbox4 := (hb4.block w.heap.size lEx).trans HBOX.out
      have hbox5 : (w4.setCell ⟨g, 1, none⟩ (.string (b.extract 0 lo ++ s ++ b.extract hi b.size))).heap[w.heap.size]? = _ := store_off hbox4 (by omega)
      have cE : w4.cell? ⟨w.heap.size, 0, none⟩ = some (.pointer (some ⟨g, 0, none⟩)) := by rw [blk_cell hbox4 0]; rfl
      have hns : (b.extract 0 lo ++ s ++ b.extract hi b.size).size = lo + s.size + (b.size - hi) := by
        rw [ByteArray.size_append, ByteArray.size_append, ByteArray.size_extract, ByteArray.size_extract]
        omega
      have CS := fun w1 => settled_any (b.extract 0 lo ++ s ++ b.extract hi b.size) (lo + s.size) w1 (by omega) (by omega)
      have hw4 : w4.heap.size = w4.heap.size := rfl
      have HE5 := hid hE5
      have HBOX5 := hid hbox5
      have hcE5 : (w4.setCell ⟨g, 1, none⟩ (.string (b.extract 0 lo ++ s ++ b.extract hi b.size))).cell? ⟨w.heap.size, 0, none⟩ = some (.pointer (some ⟨g, 0, none⟩)) := by rw [blk_cell hbox5 0]; rfl
      have hc15 := hE5.cells.2.1
      obtain ⟨z, hz⟩ : ∃ z, settledE (b.extract 0 lo ++ s ++ b.extract hi b.size).data.toList (lo + s.size) = z := ⟨_, rfl⟩
      rw [hz] at CS
      have HZ := hid hz
      obtain ⟨nb, hnb⟩ : ∃ y, b.extract 0 lo ++ s ++ b.extract hi b.size = y := ⟨_, rfl⟩
      simp only [Int.natCast_add] at CS
      rw [hnb] at CS HE5 HBOX5 hcE5 hc15
      have HNB := hid hnb
      have HB4 := hid hb4
      have hgt : t ≠ g := by omega
      have hgo : bO ≠ g := by omega
      have hgx : w.heap.size ≠ g := by omega
      have hS5 : StAt (w4.setCell ⟨g, 1, none⟩ (.string nb)) t b x y { data := #[] } 0 0 (.pointer P) := store_off (HS.out.on hb4) hgt
      have hO5 : (w4.setCell ⟨g, 1, none⟩ (.string nb)).heap[bO]? = some (.cells #[.pointer (some ⟨t, 0, none⟩)] 54 (0, 0)) := store_off ((hb4.block _ (lt_of_block HO.out)).trans HO.out) hgo
      have HS5 := hid hS5
      have HO5 := hid hO5
      clear hE4 hE5 hbox4 hbox5 hz hb4 hns hS5 hO5 hnb
      go_wp2_with fail
      rw [HNB.out]
      with_reducible refine (CS _).mono ?_
      rintro e w5 ⟨rfl, hb5⟩
      have hE6 := HE5.out.on hb5
      have hS6 := HS5.out.on hb5
      have hO6 := (hb5.block _ (lt_of_block HO5.out)).trans HO5.out
      have hX6 := (hb5.block _ (lt_of_block HBOX5.out)).trans HBOX5.out
      clear cE hcE5 hc15 f1 c1
      have cE : w5.cell? ⟨w.heap.size, 0, none⟩ = some (.pointer (some ⟨g, 0, none⟩)) := by rw [blk_cell hX6 0]; rfl
      have c2 := hE6.cells.2.2.1
      have c3 := hE6.cells.2.2.2.1
      have f2 := hE6.free 2
      have f3 := hE6.free 3
      have hE7 : EdAt ((w5.setCell ⟨g, 2, none⟩ (.int .i64 (z : Int))).setCell ⟨g, 3, none⟩ (.int .i64 (z : Int))) g nb z z (.pointer P) q k m := store_in (store_in hE6)
      have hS7 : StAt ((w5.setCell ⟨g, 2, none⟩ (.int .i64 (z : Int))).setCell ⟨g, 3, none⟩ (.int .i64 (z : Int))) t b x y { data := #[] } 0 0 (.pointer P) := store_off (store_off hS6 hgt) hgt
      have hO7 : ((w5.setCell ⟨g, 2, none⟩ (.int .i64 (z : Int))).setCell ⟨g, 3, none⟩ (.int .i64 (z : Int))).heap[bO]? = _ := store_off (store_off hO6 hgo) hgo
      have hX7 : ((w5.setCell ⟨g, 2, none⟩ (.int .i64 (z : Int))).setCell ⟨g, 3, none⟩ (.int .i64 (z : Int))).heap[w.heap.size]? = _ := store_off (store_off hX6 hgx) hgx
      have CH := chg_any .returning hE7 hS7 (Ne.symm hgt) (by rw [blk_cell hX7 0]; rfl) (by rw [blk_cell hO7 0]; rfl) ⟨hgx, by omega⟩ ⟨hgo, Ne.symm hne⟩ hk
      have HCH := hid CH
      have HG : Hid (w.grownBy ((w5.setCell ⟨g, 2, none⟩ (.int .i64 (z : Int))).setCell ⟨g, 3, none⟩ (.int .i64 (z : Int))) (some g)) :=
        hid (grown_cell (grown_cell (grown_then (grown_cell (grown_below (hB1.trans ((HBX.out.mono (by omega)).trans (HB4.out.mono (by omega)))) (World.grownBy.refl _ _))) hb5)))
      clear hE6 hS6 hO6 hX6 hE7 hS7 hO7 hX7 CH CS
      go_wp2
      refine leaves_cons (f := 43) (args := #[.pointer (some ⟨w.heap.size, 0, none⟩), .pointer (some ⟨bO, 0, none⟩)]) (by simp) (by simp [go_sem]) ?_
      refine HCH.out.mono ?_
      rintro e u' w8 ⟨rfl, rfl, h8, s8, T8⟩
      have hg8 : w.grownBy w8 (some g) := ⟨T8.os.trans HG.out.os, T8.tape.trans HG.out.tape, T8.output.trans HG.out.output, Nat.le_trans HG.out.size T8.size, fun j hj hn => by
        rw [T8.block j (by have := HG.out.size; omega) (by rintro (e | e)
                                                           · exact hn (by rw [e])
                                                           · omega)]
        exact HG.out.block j hj hn⟩
      refine ⟨.int .i64 0, by simp [results, Tryd.results30, go_sem], t, z, rfl, HZ.out.symm, ?_, ?_, by omega, hg8⟩
      · rw [HNB.out]; exact h8
      · rw [HNB.out]; exact s8
end
end Go.Proofs.YtcfgpmmclijonaaDoor
