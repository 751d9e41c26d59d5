/- Layer 25, the reference: an editor in memory: New, Chosen, to, Move, typed. -/
import Derived.Test.YtcfgpmmclijonaaGreatDoorErA
import Derived.Test.YtcfgpmmclijonaaGreatDoorEdRt
import Derived.Deep.RegionLawGrows
import Derived.Deep.Upon
import Derived.Test.YtcfgpmmclijonaaGreatDoorEdBd
import Derived.Test.YtcfgpmmclijonaaGreatDoorRfMem
namespace Go.Proofs.YtcfgpmmclijonaaGreatDoor
set_option linter.unusedVariables false
set_option linter.unusedSimpArgs false
set_option maxRecDepth 100000
open Go.RowKit Go.Shelf Go.Lib
set_option maxRecDepth 100000
set_option maxHeartbeats 8000000

def rdC (b : ByteArray) (x y : Nat) (p q : Value) : Array Value := #[.string b, .int .i64 (x : Int), .int .i64 (y : Int), p, q]
def RdAt (w : World) (g : Nat) (b : ByteArray) (x y : Nat) (p q : Value) : Prop := w.heap[g]? = some (.cells (rdC b x y p q) 45 (0, 0))
section
variable {w w' : World} {g : Nat} {b : ByteArray} {x y : Nat} {p q : Value}
theorem RdAt.lt (h : RdAt w g b x y p q) : g < w.heap.size := lt_of_block h
theorem RdAt.on (h : RdAt w g b x y p q) (hb : Below w.heap.size w w') : RdAt w' g b x y p q := by
  unfold RdAt
  rw [hb.block _ h.lt]
  exact h
theorem RdAt.cells (h : RdAt w g b x y p q) : w.cell? ⟨g, 0, none⟩ = some (.string b) ∧ w.cell? ⟨g, 1, none⟩ = some (.int .i64 (x : Int)) ∧ w.cell? ⟨g, 2, none⟩ = some (.int .i64 (y : Int)) ∧ w.cell? ⟨g, 3, none⟩ = some p ∧ w.cell? ⟨g, 4, none⟩ = some q :=
  ⟨by rw [blk_cell h]; rfl, by rw [blk_cell h]; rfl, by rw [blk_cell h]; rfl, by rw [blk_cell h]; rfl, by rw [blk_cell h]; rfl⟩
theorem RdAt.free (h : RdAt w g b x y p q) (i : Nat) : w.frozen? ⟨g, i, none⟩ = false := blk_frozen h i
end
theorem rNew_any (s : ByteArray) (w : World) (hs : s.size ≤ 65536) : Calls Tryz.prog 5 #[.string s] w fun e w' => ∃ g, w.heap.size ≤ g ∧ e = .returned (.tuple #[.pointer (some ⟨g, 0, none⟩), .int .i64 0]) ∧ RdAt w' g s s.size s.size (.slice none 0 0) (.slice none 0 0) ∧ Below w.heap.size w w' := by
  have h1 : ¬ ((65536 : Int) < (s.size : Int)) := by omega
  have h2 : decide ((65536 : Int) < (s.size : Int)) = false := decide_eq_false h1
  go_enter Tryz.func5, Tryz.ntmps5
  go_wp2
  refine bodyPost_ret (v := .tuple #[.pointer (some ⟨w.heap.size, 0, none⟩), .int .i64 0]) (by simp [results, Tryz.results5, go_sem, *]) rfl ⟨w.heap.size, Nat.le_refl _, rfl, World.alloc_heap_new _ _, (Below.refl _ _).alloc (Nat.le_refl _) _⟩
theorem rNew_none (s : ByteArray) (w : World) (hs : 65536 < s.size) : Calls Tryz.prog 5 #[.string s] w fun e w' => e = .returned (.tuple #[.pointer none, .int .i64 3]) ∧ Below w.heap.size w w' := by
  have h1 : (65536 : Int) < (s.size : Int) := by omega
  have h2 : decide ((65536 : Int) < (s.size : Int)) = true := decide_eq_true h1
  go_enter Tryz.func5, Tryz.ntmps5
  go_wp2
  exact bodyPost_ret (by simp [results, Tryz.results5, go_sem, *]) rfl ⟨rfl, Below.refl _ _⟩
section
variable {w : World} {g : Nat} {b : ByteArray} {x y : Nat} {p q : Value}
theorem rChosen_any (h : RdAt w g b x y p q) : Calls Tryz.prog 21 #[.pointer (some ⟨g, 0, none⟩)] w fun e w' => e = .returned (.tuple #[.int .i64 ((min x y : Nat) : Int), .int .i64 ((max x y : Nat) : Int)]) ∧ Below w.heap.size w w' := by
  obtain ⟨c0, c1, c2, c3, c4⟩ := h.cells
  have hl := h.lt
  obtain ⟨lo, hlo⟩ : ∃ z, min x y = z := ⟨_, rfl⟩
  obtain ⟨hi, hhi⟩ : ∃ z, max x y = z := ⟨_, rfl⟩
  rw [hlo, hhi]
  have n1 : min (x : Int) (y : Int) = (lo : Int) := by omega
  have n2 : max (x : Int) (y : Int) = (hi : Int) := by omega
  clear h hlo hhi
  go_enter Tryz.func21, Tryz.ntmps21
  go_wp2
  refine region_ext mixed (by kernel_rfl) ?_
  (repeat (go_big_quiet_step (fail)))
  refine wpQuiet_nil ?_
  intro w2 hb2
  go_wp2
  exact bodyPost_ret (by simp [results, Tryz.results21, go_sem, *]) rfl ⟨rfl, hb2⟩
theorem rto_any (h : RdAt w g b x y p q) (a : Nat) (keep : Bool) : Calls Tryz.prog 36 #[.pointer (some ⟨g, 0, none⟩), .int .i64 (a : Int), .bool keep] w fun e w' => e = .returned (.tuple #[]) ∧ RdAt w' g b a (if keep then y else a) p q ∧ w.grownBy w' (some g) := by
  obtain ⟨c0, c1, c2, c3, c4⟩ := h.cells
  have f2 := h.free 1
  have f3 := h.free 2
  have hl := h.lt
  have hA : RdAt (w.setCell ⟨g, 1, none⟩ (.int .i64 (a : Int))) g b a y p q := store_in h
  have hB : RdAt ((w.setCell ⟨g, 1, none⟩ (.int .i64 (a : Int))).setCell ⟨g, 2, none⟩ (.int .i64 (a : Int))) g b a a p q := store_in hA
  have HA := hid hA
  have HB := hid hB
  clear h hA hB
  cases keep with
  | true =>
    go_enter Tryz.func36, Tryz.ntmps36
    go_wp2
    go_end0
    exact ⟨rfl, HA.out, grown_cell (World.grownBy.refl _ _)⟩
  | false =>
    go_enter Tryz.func36, Tryz.ntmps36
    go_wp2
    go_end0
    exact ⟨rfl, HB.out, grown_cell (grown_cell (World.grownBy.refl _ _))⟩
theorem rMove_any (h : RdAt w g b x y p q) (hb : b.size ≤ 4000000) (a : Nat) (ha : a ≤ b.size) (keep : Bool) : Calls Tryz.prog 12 #[.pointer (some ⟨g, 0, none⟩), .int .i64 (a : Int), .bool keep] w fun e w' => e = .returned (.int .i64 0) ∧
    RdAt w' g b (settledE b.data.toList a) (if keep then y else settledE b.data.toList a) p q ∧ w.grownBy w' (some g) := by
  have HH := hid h
  have CS := fun w1 => reset_any b a w1 hb ha
  generalize settledE b.data.toList a = z at *
  have CT := fun w1 (h1 : RdAt w1 g b x y p q) => rto_any h1 z keep
  obtain ⟨Y, hY⟩ : ∃ Y, (if keep = true then y else z) = Y := ⟨_, rfl⟩
  rw [hY] at CT ⊢
  clear hY
  have HCT := hid CT
  have a1 : decide ((a : Int) < 0) = false := decide_eq_false (by omega)
  have a2 : decide ((b.size : Int) < (a : Int)) = false := decide_eq_false (by omega)
  have a3 : ¬ b.size < a := by omega
  have a4 : decide (b.size < a) = false := decide_eq_false a3
  obtain ⟨c0, c1, c2, c3, c4⟩ := h.cells
  have hl := h.lt
  clear h CT
  go_enter Tryz.func12, Tryz.ntmps12
  go_wp2_with fail
  with_reducible refine (CS _).mono ?_
  rintro e w2 ⟨rfl, hb2⟩
  have C3 := HCT.out w2 (HH.out.on hb2)
  clear CS
  go_wp2_with fail
  with_reducible refine C3.mono ?_
  rintro e w3 ⟨rfl, h3, hg3⟩
  have H3 := hid h3
  have HG := hid hg3
  clear C3 h3 hg3 c0 c1 c2 c3 c4
  go_wp2
  go_ret
  exact ⟨rfl, H3.out, grown_below hb2 HG.out⟩
theorem rMove_bad (h : RdAt w g b x y p q) (a : Int) (ha : a < 0 ∨ (b.size : Int) < a) (keep : Bool) : Calls Tryz.prog 12 #[.pointer (some ⟨g, 0, none⟩), .int .i64 a, .bool keep] w fun e w' => e = .returned (.int .i64 2) ∧ Below w.heap.size w w' := by
  have hc : (decide (a < 0) = true) ∨ (decide (a < 0) = false ∧ decide ((b.size : Int) < a) = true) := by
    by_cases h0 : a < 0
    · exact .inl (decide_eq_true h0)
    · exact .inr ⟨decide_eq_false h0, decide_eq_true (by omega)⟩
  obtain ⟨c0, c1, c2, c3, c4⟩ := h.cells
  have hl := h.lt
  clear h ha
  rcases hc with q1 | ⟨q1, q2⟩
  all_goals
    go_enter Tryz.func12, Tryz.ntmps12
    go_wp2
    go_ret
    exact ⟨rfl, Below.refl _ _⟩
end
theorem retyped_any (s : ByteArray) (md : Nat) (w : World) (hs : s.size ≤ 4000000) (hs0 : s.size ≠ 0) (bl : Bool) (v6 : Int) (a6 : bits .and .u8 (md : Int) 6 = v6) (h6 : (v6 != 0) = bl) :
    Calls Tryz.prog 39 #[.agg #[.string s, .int .u8 (md : Int)]] w fun e w' => e = .returned (.tuple #[.string (typedE s bl), .bool (decide ((typedE s bl).size ≠ 0))]) ∧ Below w.heap.size w w' := by
  have hB1 := (Below.refl w.heap.size w).alloc (Nat.le_refl _) (.cells #[.string s, .int .u8 (md : Int)] 32)
  cases bl with
  | true =>
    have hG : typedE s true = ⟨#[]⟩ := rfl
    rw [hG]
    go_enter Tryz.func39, Tryz.ntmps39
    go_wp2
    exact bodyPost_ret (by simp [results, Tryz.results39, go_sem, *]) rfl ⟨rfl, hB1⟩
  | false =>
  by_cases n1 : s = ⟨#[101, 110, 116, 101, 114]⟩
  · subst n1
    have hG : typedE ⟨#[101, 110, 116, 101, 114]⟩ false = ⟨#[10]⟩ := by decide
    rw [hG]
    go_enter Tryz.func39, Tryz.ntmps39
    go_wp2
    exact bodyPost_ret (by simp [results, Tryz.results39, go_sem, *]) rfl ⟨rfl, hB1⟩
  have t1 := str_ne (l := [101, 110, 116, 101, 114]) n1
  by_cases n2 : s = ⟨#[116, 97, 98]⟩
  · subst n2
    have hG : typedE ⟨#[116, 97, 98]⟩ false = ⟨#[9]⟩ := by decide
    rw [hG]
    go_enter Tryz.func39, Tryz.ntmps39
    go_wp2
    exact bodyPost_ret (by simp [results, Tryz.results39, go_sem, *]) rfl ⟨rfl, hB1⟩
  have t2 := str_ne (l := [116, 97, 98]) n2
  by_cases n3 : s = ⟨#[115, 112, 97, 99, 101]⟩
  · subst n3
    have hG : typedE ⟨#[115, 112, 97, 99, 101]⟩ false = ⟨#[32]⟩ := by decide
    rw [hG]
    go_enter Tryz.func39, Tryz.ntmps39
    go_wp2
    exact bodyPost_ret (by simp [results, Tryz.results39, go_sem, *]) rfl ⟨rfl, hB1⟩
  have t3 := str_ne (l := [115, 112, 97, 99, 101]) n3
  by_cases n4 : s = ⟨#[112, 108, 117, 115]⟩
  · subst n4
    have hG : typedE ⟨#[112, 108, 117, 115]⟩ false = ⟨#[43]⟩ := by decide
    rw [hG]
    go_enter Tryz.func39, Tryz.ntmps39
    go_wp2
    exact bodyPost_ret (by simp [results, Tryz.results39, go_sem, *]) rfl ⟨rfl, hB1⟩
  have t4 := str_ne (l := [112, 108, 117, 115]) n4
  have bx1 : Box2 (w.alloc (.cells #[.string s, .int .u8 (md : Int)] 32)) w.heap.size s md := Box2.of_heap (World.alloc_heap_new _ _)
  have hw1 : (w.alloc (.cells #[.string s, .int .u8 (md : Int)] 32)).heap.size = w.heap.size + 1 := World.size_alloc _ _
  have CN := rNext_any s 0 (w.alloc (.cells #[.string s, .int .u8 (md : Int)] 32)) hs
  obtain ⟨G, hG⟩ : ∃ G, typedE s false = G := ⟨_, rfl⟩
  rw [hG]
  unfold typedE at hG
  rw [if_neg (by decide), if_neg n1, if_neg n2, if_neg n3, if_neg n4] at hG
  obtain ⟨⟨kk, is⟩, he⟩ : ∃ z, nextE (pcs s.data.toList) 0 = z := ⟨_, rfl⟩
  rw [he] at CN hG
  unfold ansV at CN
  simp only at CN hG
  have HG := hid hG
  have HS0 := hid hs0
  clear hG he hs0
  by_cases hk : kk = s.size
  · have hG := HG.out
    rw [if_pos hk] at hG
    subst hG
    have q1 : ((kk : Int) == (s.size : Int)) = true := beq_iff_eq.2 (by omega)
    have q2 : (kk : Int) = (s.size : Int) := by omega
    have hdz : decide (s.size ≠ 0) = true := decide_eq_true HS0.out
    rw [hdz]
    clear HG hdz
    go_enter Tryz.func39, Tryz.ntmps39
    go_wp2_with fail
    with_reducible refine CN.mono ?_
    rintro e w2 ⟨rfl, hb2⟩
    obtain ⟨k0, k1, k2, k3⟩ := bx1.below hb2 (by omega)
    clear CN
    go_wp2
    exact bodyPost_ret (by simp [results, Tryz.results39, go_sem, *]) rfl ⟨rfl, hB1.trans (hb2.mono hB1.size)⟩
  · have hG := HG.out
    rw [if_neg hk] at hG
    subst hG
    have q1 : ((kk : Int) == (s.size : Int)) = false := beq_eq_false_iff_ne.2 (by omega)
    have q2 : ¬ (kk : Int) = (s.size : Int) := by omega
    clear HG
    go_enter Tryz.func39, Tryz.ntmps39
    go_wp2_with fail
    with_reducible refine CN.mono ?_
    rintro e w2 ⟨rfl, hb2⟩
    obtain ⟨k0, k1, k2, k3⟩ := bx1.below hb2 (by omega)
    clear CN
    go_wp2
    exact bodyPost_ret (by simp [results, Tryz.results39, go_sem, *]) rfl ⟨rfl, hB1.trans (hb2.mono hB1.size)⟩
end Go.Proofs.YtcfgpmmclijonaaGreatDoor

/- Layer 25, the reference: where keys lead. Printed by gen_rgo.py. -/
namespace Go.Proofs.YtcfgpmmclijonaaGreatDoor
set_option linter.unusedVariables false
set_option linter.unusedSimpArgs false
set_option maxRecDepth 100000
open Go.RowKit Go.Shelf Go.Lib
set_option maxRecDepth 100000
set_option maxHeartbeats 8000000

theorem regoes_any {w : World} {g : Nat} {b : ByteArray} {x y : Nat} {p q : Value} (h : RdAt w g b x y p q) (hT : Tabs w) (hb : b.size ≤ 4000000) (hx : x ≤ b.size) (s : ByteArray) (md : Nat) (al row sh : Bool) (v4 v2 v1 : Int)
    (a4 : bits .and .u8 (md : Int) 4 = v4) (h4 : (v4 != 0) = al) (a2 : bits .and .u8 (md : Int) 2 = v2) (h2 : (v2 != 0) = row) (a1 : bits .and .u8 (md : Int) 1 = v1) (h1 : (v1 == 0) = !sh) :
    Calls Tryz.prog 35 #[.pointer (some ⟨g, 0, none⟩), .agg #[.string s, .int .u8 (md : Int)]] w fun e w' => ∃ z : Nat, e = .returned (.tuple #[.int .i64 (z : Int), .bool (goesE b x y s al row (!sh && !row)).isSome]) ∧ (∀ u, goesE b x y s al row (!sh && !row) = some u → z = u) ∧ Below w.heap.size w w' := by
  have hB1 := (Below.refl w.heap.size w).alloc (Nat.le_refl _) (.cells #[.string s, .int .u8 (md : Int)] 32)
  have bx1 : Box2 (w.alloc (.cells #[.string s, .int .u8 (md : Int)] 32)) w.heap.size s md := Box2.of_heap (World.alloc_heap_new _ _)
  have h1' := h.on hB1
  obtain ⟨c0, c1, c2, c3, c4⟩ := h1'.cells
  have lg := h.lt
  have lg1 : g < w.heap.size + 1 := by omega
  have CL := fun w1 => reline_any b x w1 hb hx
  have CS := fun w1 (h1 : RdAt w1 g b x y p q) => rChosen_any h1
  obtain ⟨J, hJ⟩ : ∃ J, (decide (min x y < max x y) && (!sh && !row)) = J := ⟨_, rfl⟩
  obtain ⟨G, hG⟩ : ∃ G, goesE b x y s al row (!sh && !row) = G := ⟨_, rfl⟩
  rw [hG]
  have HG0 := hid hG
  have HJ0 := hid hJ
  have HH := hid h1'
  have HT := hid hT
  have hw1 : (w.alloc (.cells #[.string s, .int .u8 (md : Int)] 32)).heap.size = w.heap.size + 1 := World.size_alloc _ _
  obtain ⟨A, hAA⟩ : ∃ A, lnA b x = A := ⟨_, rfl⟩
  obtain ⟨B, hBB⟩ : ∃ B, lnB b x = B := ⟨_, rfl⟩
  obtain ⟨lo, hlo⟩ : ∃ z, min x y = z := ⟨_, rfl⟩
  obtain ⟨hi, hhi⟩ : ∃ z, max x y = z := ⟨_, rfl⟩
  rw [hAA, hBB] at CL
  rw [hlo, hhi] at CS
  rw [hlo, hhi] at hJ
  have HJ := hid hJ
  have HCS := hid CS
  have HAA := hid hAA
  have HBB := hid hBB
  have HLO := hid hlo
  have HHI := hid hhi
  clear h h1' CS hG hT hJ hAA hBB hlo hhi
  go_enter Tryz.func35, Tryz.ntmps35
  go_wp2
  refine region_ext mixed (by kernel_rfl) ?_
  generalize w.alloc (.cells #[.string s, .int .u8 (md : Int)] 32) = w1 at *
  have lg2 : g < w1.heap.size := by omega
  (repeat (go_big_quiet_step (fail)))
  refine wpQuiet_nil ?_
  intro w2 hb2
  have bx2 := bx1.below hb2 (by omega)
  have hs2 := hb2.size
  have h2' := HH.out.on hb2
  have hB2 := hB1.trans (hb2.mono hB1.size)
  obtain ⟨k0, k1, k2, k3⟩ := bx2
  have H2 := hid h2'
  clear c0 c1 c2 c3 c4 h2' hb2
  go_wp2_with fail
  with_reducible refine (CL _).mono ?_
  rintro e w3 ⟨rfl, hb3⟩
  obtain ⟨j0, j1, j2, j3⟩ := Box2.below ⟨k0, k1, k2, k3⟩ hb3 (by omega)
  have hs3 := hb3.size
  have C3 := HCS.out w3 (H2.out.on hb3)
  have hB3 := hB2.trans (hb3.mono hB2.size)
  clear k0 k1 k2 k3 hb3
  go_wp2_with fail
  with_reducible refine C3.mono ?_
  rintro e w4 ⟨rfl, hb4⟩
  have bx4 := Box2.below ⟨j0, j1, j2, j3⟩ hb4 (by omega)
  have hB4 := hB3.trans (hb4.mono hB3.size)
  have hT4 := tabs_on HT.out hB4
  clear j0 j1 j2 j3 hb4 C3 HCS H2 HH bx1 CL
  have HBX := hid bx4
  clear bx4
  go_upto_region 5 with fail
  go_cut [13] from 40 to 52 (fun v wx => v = .bool J ∧ wx = w4)
  case first =>
    obtain ⟨k0, k1, k2, k3⟩ := HBX.out
    by_cases hj : lo < hi
    · have q1 : decide ((lo : Int) < (hi : Int)) = true := decide_eq_true (by omega)
      have q2 : (lo : Int) < (hi : Int) := by omega
      have hJ := HJ.out
      rw [decide_eq_true hj, Bool.true_and] at hJ
      cases sh with
      | true =>
        rw [show (!true && !row) = false from rfl] at hJ
        subst hJ
        go_wp2
        go_meet
        exact ⟨rfl, rfl⟩
      | false =>
        rw [show (!false && !row) = !row from rfl] at hJ
        subst hJ
        go_wp2
        go_meet
        exact ⟨rfl, rfl⟩
    · have q1 : decide ((lo : Int) < (hi : Int)) = false := decide_eq_false (by omega)
      have q2 : ¬ (lo : Int) < (hi : Int) := by omega
      have hJ := HJ.out
      rw [decide_eq_false hj, Bool.false_and] at hJ
      subst hJ
      go_wp2
      go_meet
      exact ⟨rfl, rfl⟩
  case rest =>
    obtain ⟨rfl, rfl⟩ := hcut
    have bx4 := HBX.out
    cases al with
    | true =>
      obtain ⟨k0, k1, k2, k3⟩ := bx4
      have hg : none = G := HG0.out
      subst hg
      clear HG0
      go_wp2
      exact bodyPost_ret (by simp [results, Tryz.results35, go_sem, *]) rfl ⟨0, rfl, (fun u h => by cases h), hB4⟩
    | false =>
    have HG : Hid (goesJ b x y s row J = G) := hid (by rw [← HG0.out, ← HJ0.out]; rfl)
    clear HG0 HJ0
    by_cases n1 : s = ⟨#[108, 101, 102, 116]⟩
    · subst n1
      obtain ⟨k0, k1, k2, k3⟩ := bx4
      cases J with
      | true =>
        have hg := HG.out
        unfold goesJ at hg
        rw [if_pos rfl, if_pos rfl, HLO.out] at hg
        subst hg
        clear HG
        go_wp2
        exact bodyPost_ret (by simp [results, Tryz.results35, go_sem, *]) rfl ⟨lo, rfl, (fun u h => Option.some.inj h), hB4⟩
      | false =>
        cases row with
        | true =>
          have hg := HG.out
          unfold goesJ at hg
          rw [if_pos rfl, if_neg (by decide), if_pos rfl] at hg
          subst hg
          clear HG
          have C5 := relrow_any b x wc hT4 hb hx
          go_wp2_with fail
          with_reducible refine C5.mono ?_
          rintro e w5 ⟨rfl, hb5⟩
          clear C5
          go_wp2
          exact bodyPost_ret (by simp [results, Tryz.results35, go_sem, *]) rfl ⟨_, rfl, (fun u h => Option.some.inj h), (hB4.trans (hb5.mono hB4.size))⟩
        | false =>
          have hg := HG.out
          unfold goesJ at hg
          rw [if_pos rfl, if_neg (by decide), if_neg (by decide)] at hg
          subst hg
          clear HG
          have C5 := releft_any b x wc hb hx
          go_wp2_with fail
          with_reducible refine C5.mono ?_
          rintro e w5 ⟨rfl, hb5⟩
          clear C5
          go_wp2
          exact bodyPost_ret (by simp [results, Tryz.results35, go_sem, *]) rfl ⟨_, rfl, (fun u h => Option.some.inj h), (hB4.trans (hb5.mono hB4.size))⟩
    have t1 := str_ne (l := [108, 101, 102, 116]) n1
    by_cases n2 : s = ⟨#[114, 105, 103, 104, 116]⟩
    · subst n2
      obtain ⟨k0, k1, k2, k3⟩ := bx4
      cases J with
      | true =>
        have hg := HG.out
        unfold goesJ at hg
        rw [if_neg (by decide), if_pos rfl, if_pos rfl, HHI.out] at hg
        subst hg
        clear HG
        go_wp2
        exact bodyPost_ret (by simp [results, Tryz.results35, go_sem, *]) rfl ⟨hi, rfl, (fun u h => Option.some.inj h), hB4⟩
      | false =>
        cases row with
        | true =>
          have hg := HG.out
          unfold goesJ at hg
          rw [if_neg (by decide), if_pos rfl, if_neg (by decide), if_pos rfl] at hg
          subst hg
          clear HG
          have C5 := reword_any b x wc hT4 hb
          go_wp2_with fail
          with_reducible refine C5.mono ?_
          rintro e w5 ⟨rfl, hb5⟩
          clear C5
          go_wp2
          exact bodyPost_ret (by simp [results, Tryz.results35, go_sem, *]) rfl ⟨_, rfl, (fun u h => Option.some.inj h), (hB4.trans (hb5.mono hB4.size))⟩
        | false =>
          have hg := HG.out
          unfold goesJ at hg
          rw [if_neg (by decide), if_pos rfl, if_neg (by decide), if_neg (by decide)] at hg
          subst hg
          clear HG
          have C5 := reright_any b x wc hb
          go_wp2_with fail
          with_reducible refine C5.mono ?_
          rintro e w5 ⟨rfl, hb5⟩
          clear C5
          go_wp2
          exact bodyPost_ret (by simp [results, Tryz.results35, go_sem, *]) rfl ⟨_, rfl, (fun u h => Option.some.inj h), (hB4.trans (hb5.mono hB4.size))⟩
    have t2 := str_ne (l := [114, 105, 103, 104, 116]) n2
    by_cases n3 : s = ⟨#[104, 111, 109, 101]⟩
    · subst n3
      obtain ⟨k0, k1, k2, k3⟩ := bx4
      cases row with
      | true =>
        have hg := HG.out
        unfold goesJ at hg
        rw [if_neg (by decide), if_neg (by decide), if_pos rfl, if_pos rfl] at hg
        subst hg
        clear HG
        go_wp2
        exact bodyPost_ret (by simp [results, Tryz.results35, go_sem, *]) rfl ⟨0, rfl, (fun u h => Option.some.inj h), hB4⟩
      | false =>
        have hg := HG.out
        unfold goesJ at hg
        rw [if_neg (by decide), if_neg (by decide), if_pos rfl, if_neg (by decide), HAA.out] at hg
        subst hg
        clear HG
        go_wp2
        exact bodyPost_ret (by simp [results, Tryz.results35, go_sem, *]) rfl ⟨A, rfl, (fun u h => Option.some.inj h), hB4⟩
    have t3 := str_ne (l := [104, 111, 109, 101]) n3
    by_cases n4 : s = ⟨#[101, 110, 100]⟩
    · subst n4
      obtain ⟨k0, k1, k2, k3⟩ := bx4
      cases row with
      | true =>
        have hg := HG.out
        unfold goesJ at hg
        rw [if_neg (by decide), if_neg (by decide), if_neg (by decide), if_pos rfl, if_pos rfl] at hg
        subst hg
        clear HG
        go_wp2
        exact bodyPost_ret (by simp [results, Tryz.results35, go_sem, *]) rfl ⟨b.size, rfl, (fun u h => Option.some.inj h), hB4⟩
      | false =>
        have hg := HG.out
        unfold goesJ at hg
        rw [if_neg (by decide), if_neg (by decide), if_neg (by decide), if_pos rfl, if_neg (by decide), HBB.out] at hg
        subst hg
        clear HG
        go_wp2
        exact bodyPost_ret (by simp [results, Tryz.results35, go_sem, *]) rfl ⟨B, rfl, (fun u h => Option.some.inj h), hB4⟩
    have t4 := str_ne (l := [101, 110, 100]) n4
    by_cases n5 : s = ⟨#[117, 112]⟩
    · subst n5
      obtain ⟨k0, k1, k2, k3⟩ := bx4
      cases row with
      | true =>
        have hg := HG.out
        unfold goesJ at hg
        rw [if_neg (by decide), if_neg (by decide), if_neg (by decide), if_neg (by decide), if_pos rfl] at hg
        subst hg
        clear HG
        have C5 := reacross_up b x wc hb hx
        obtain ⟨zz, hzz⟩ : ∃ z, (if lnA b x = 0 then 0 else acrossE b x (lnA b x - 1) : Nat) = z := ⟨_, rfl⟩
        rw [hzz] at C5
        clear hzz
        go_wp2_with fail
        with_reducible refine C5.mono ?_
        rintro e w5 ⟨rfl, hb5⟩
        clear C5
        go_wp2
        exact bodyPost_ret (by simp [results, Tryz.results35, go_sem, *]) rfl ⟨zz, rfl, (fun u h => by cases h), (hB4.trans (hb5.mono hB4.size))⟩
      | false =>
        have hg := HG.out
        unfold goesJ at hg
        rw [if_neg (by decide), if_neg (by decide), if_neg (by decide), if_neg (by decide), if_neg (by decide), if_pos rfl] at hg
        have hg2 : G = some (if lnA b x = 0 then 0 else acrossE b x (lnA b x - 1)) := by rw [← hg]; split <;> rfl
        have C5 := reacross_up b x wc hb hx
        obtain ⟨zz, hzz⟩ : ∃ z, (if lnA b x = 0 then 0 else acrossE b x (lnA b x - 1) : Nat) = z := ⟨_, rfl⟩
        rw [hzz] at C5 hg2
        clear hzz hg HG
        subst hg2
        go_wp2_with fail
        with_reducible refine C5.mono ?_
        rintro e w5 ⟨rfl, hb5⟩
        clear C5
        go_wp2
        exact bodyPost_ret (by simp [results, Tryz.results35, go_sem, *]) rfl ⟨zz, rfl, (fun u h => Option.some.inj h), (hB4.trans (hb5.mono hB4.size))⟩
    have t5 := str_ne (l := [117, 112]) n5
    by_cases n6 : s = ⟨#[100, 111, 119, 110]⟩
    · subst n6
      obtain ⟨k0, k1, k2, k3⟩ := bx4
      cases row with
      | true =>
        have hg := HG.out
        unfold goesJ at hg
        rw [if_neg (by decide), if_neg (by decide), if_neg (by decide), if_neg (by decide), if_pos rfl] at hg
        subst hg
        clear HG
        have C5 := reacross_down b x wc hb hx
        obtain ⟨zz, hzz⟩ : ∃ z, (if lnB b x = b.size then lnB b x else acrossE b x (lnB b x + 1) : Nat) = z := ⟨_, rfl⟩
        rw [hzz] at C5
        clear hzz
        go_wp2_with fail
        with_reducible refine C5.mono ?_
        rintro e w5 ⟨rfl, hb5⟩
        clear C5
        go_wp2
        exact bodyPost_ret (by simp [results, Tryz.results35, go_sem, *]) rfl ⟨zz, rfl, (fun u h => by cases h), (hB4.trans (hb5.mono hB4.size))⟩
      | false =>
        have hg := HG.out
        unfold goesJ at hg
        rw [if_neg (by decide), if_neg (by decide), if_neg (by decide), if_neg (by decide), if_neg (by decide), if_neg (by decide), if_pos rfl] at hg
        have hg2 : G = some (if lnB b x = b.size then lnB b x else acrossE b x (lnB b x + 1)) := by rw [← hg]; split <;> rfl
        have C5 := reacross_down b x wc hb hx
        obtain ⟨zz, hzz⟩ : ∃ z, (if lnB b x = b.size then lnB b x else acrossE b x (lnB b x + 1) : Nat) = z := ⟨_, rfl⟩
        rw [hzz] at C5 hg2
        clear hzz hg HG
        subst hg2
        go_wp2_with fail
        with_reducible refine C5.mono ?_
        rintro e w5 ⟨rfl, hb5⟩
        clear C5
        go_wp2
        exact bodyPost_ret (by simp [results, Tryz.results35, go_sem, *]) rfl ⟨zz, rfl, (fun u h => Option.some.inj h), (hB4.trans (hb5.mono hB4.size))⟩
    have t6 := str_ne (l := [100, 111, 119, 110]) n6
    have hg : none = G := by
      rw [← HG.out]
      unfold goesJ
      rw [if_neg n1, if_neg n2, if_neg n3, if_neg n4, if_neg n5, if_neg n6]
      cases row <;> rfl
    subst hg
    clear HG
    obtain ⟨k0, k1, k2, k3⟩ := bx4
    go_wp2
    exact bodyPost_ret (by simp [results, Tryz.results35, go_sem, *]) rfl ⟨0, rfl, (fun u h => by cases h), hB4⟩
end Go.Proofs.YtcfgpmmclijonaaGreatDoor

/- Layer 25, the reference: rows of steps that a call owns, at whatever place of their block. -/
namespace Go.Proofs.YtcfgpmmclijonaaGreatDoor
set_option linter.unusedVariables false
set_option linter.unusedSimpArgs false
set_option maxRecDepth 100000
open Go.RowKit Go.Shelf Go.Lib
set_option maxRecDepth 100000
set_option maxHeartbeats 8000000

/-- n elements of 6 cells, from some place of a block of the call's own on. -/
def Win (w : World) (base : Nat) (v : Value) (n : Nat) (xs : List Value) : Prop := xs.length = n * 6 ∧
  ((v = .slice none 0 0 ∧ n = 0) ∨ ∃ g off cap cur, v = .slice (some ⟨g, off, none⟩) n cap ∧ base ≤ g ∧ w.heap[g]? = some (.cells cur 75 (0, 0)) ∧ n ≤ cap ∧ off + cap * 6 ≤ cur.size ∧ ∀ j u, xs[j]? = some u → cur[off + j]? = some u)
theorem setCells_heap {g : Nat} {t : TypeId} : ∀ (vs : List Value) (o : Nat) (w : World) (cur : Array Value), w.heap[g]? = some (.cells cur t (0, 0)) → o + vs.length ≤ cur.size →
    ∃ cur', (w.setCells g o vs).heap[g]? = some (.cells cur' t (0, 0)) ∧ cur'.size = cur.size ∧ (∀ j u, vs[j]? = some u → cur'[o + j]? = some u) ∧ (∀ k, k < o ∨ o + vs.length ≤ k → cur'[k]? = cur[k]?) ∧ w.grownBy (w.setCells g o vs) (some g)
  | [], o, w, cur, h, _ => ⟨cur, h, rfl, fun j u hj => by simp at hj, fun k _ => rfl, World.grownBy.refl _ _⟩
  | v :: r, o, w, cur, h, hlt => by
    simp only [List.length_cons] at hlt
    have h1 : (w.setCell ⟨g, o, none⟩ v).heap[g]? = some (.cells (cur.set! o v) t (0, 0)) := store_in h
    obtain ⟨c2, e1, e2, e3, e4, e5⟩ := setCells_heap r (o + 1) _ (cur.set! o v) h1 (by simp; omega)
    refine ⟨c2, e1, by rw [e2]; simp, fun j u hj => ?_, fun k hk => ?_, grown_two (grown_cell (World.grownBy.refl _ _)) e5⟩
    · match j, hj with
      | 0, hj =>
        simp only [List.getElem?_cons_zero, Option.some.injEq] at hj
        subst hj
        rw [Nat.add_zero, e4 o (by omega)]
        rw [Array.set!_eq_setIfInBounds, Array.getElem?_setIfInBounds_self_of_lt (by omega)]
      | j + 1, hj =>
        rw [show o + (j + 1) = o + 1 + j by omega]
        exact e3 j u (by simpa using hj)
    · simp only [List.length_cons] at hk
      rw [e4 k (by omega), Array.set!_eq_setIfInBounds, Array.getElem?_setIfInBounds_ne (by omega)]
section
variable {w w' : World} {base n : Nat} {v : Value} {xs : List Value}
theorem Win.nil (w : World) (base : Nat) : Win w base (.slice none 0 0) 0 [] := ⟨rfl, .inl ⟨rfl, rfl⟩⟩
theorem Win.shape (h : Win w base v n xs) : ∃ A c, v = .slice A n c := by
  rcases h.2 with ⟨rfl, rfl⟩ | ⟨g, off, cap, cur, rfl, _⟩
  · exact ⟨none, 0, rfl⟩
  · exact ⟨_, cap, rfl⟩
theorem Win.lt (h : Win w base v n xs) : ∀ k, v.ownBlock = some k → base ≤ k ∧ k < w.heap.size := fun k hk => by
  rcases h.2 with ⟨rfl, _⟩ | ⟨g, off, cap, cur, rfl, hb, hh, _⟩
  · cases hk
  · simp only [Value.ownBlock, Option.some.injEq] at hk
    subst hk
    exact ⟨hb, lt_of_block hh⟩
theorem Win.same (h : Win w base v n xs) (hk : ∀ k, v.ownBlock = some k → w'.heap[k]? = w.heap[k]?) : Win w' base v n xs := by
  refine ⟨h.1, ?_⟩
  rcases h.2 with h2 | ⟨g, off, cap, cur, rfl, hb, hh, r⟩
  · exact .inl h2
  · exact .inr ⟨g, off, cap, cur, rfl, hb, by rw [hk g rfl]; exact hh, r⟩
theorem Win.on (h : Win w base v n xs) (hb : Below w.heap.size w w') : Win w' base v n xs := h.same fun k hk => hb.block k (h.lt k hk).2
theorem Win.ne (h : Win w base v n xs) {k : Nat} {cs : Array Value} {ty : TypeId} (hk : w.heap[k]? = some (.cells cs ty (0, 0))) (hty : ty ≠ 75) : v.ownBlock ≠ some k := by
  intro e
  rcases h.2 with ⟨rfl, _⟩ | ⟨g, off, cap, cur, rfl, _, hh, _⟩
  · cases e
  · simp only [Value.ownBlock, Option.some.injEq] at e
    subst e
    rw [hk] at hh
    cases hh
    exact hty rfl
theorem Win.mono (h : Win w base v n xs) {b2 : Nat} (hb : b2 ≤ base) : Win w b2 v n xs := by
  refine ⟨h.1, ?_⟩
  rcases h.2 with h2 | ⟨g, off, cap, cur, hv, hg, r⟩
  · exact .inl h2
  · exact .inr ⟨g, off, cap, cur, hv, by omega, r⟩
theorem Win.of_own (h : w.ownsRow base 75 6 v n xs) : Win w base v n xs := by
  refine ⟨h.1, ?_⟩
  rcases h.2 with h2 | ⟨g, cap, cur, rfl, hb, hh, hn, _, hc, ht⟩
  · exact .inl h2
  · refine .inr ⟨g, 0, cap, cur, rfl, hb, hh, hn, by omega, fun j u hj => ?_⟩
    rw [← ht, List.getElem?_take] at hj
    split at hj
    · simpa using hj
    · cases hj
/-- The cells of the elements. -/
theorem Win.cells {A : Option Addr} {c : Nat} (h : Win w base (.slice A n c) n xs) (hn : 0 < n) : ∃ g o, A = some ⟨g, o, none⟩ ∧ g < w.heap.size ∧ ∀ j u, xs[j]? = some u → w.cell? ⟨g, o + j, none⟩ = some u := by
  rcases h.2 with ⟨_, h0⟩ | ⟨g, off, cap, cur, hv, hb, hh, _, _, hx⟩
  · omega
  · refine ⟨g, off, by injection hv, lt_of_block hh, fun j u hj => ?_⟩
    rw [blk_cell hh]
    exact hx j u hj
/-- Without the last element. -/
theorem Win.less {A : Option Addr} {c m : Nat} (h : Win w base (.slice A n c) n xs) (hm : m ≤ n) (hn : 0 < n) : Win w base (.slice A m c) m (xs.take (m * 6)) := by
  rcases h.2 with ⟨_, h0⟩ | ⟨g, off, cap, cur, hv, hb, hh, hc, hs, hx⟩
  · omega
  · obtain ⟨rfl, rfl⟩ : A = some ⟨g, off, none⟩ ∧ c = cap := by injection hv with e1 e2 e3; exact ⟨e1, e3⟩
    refine ⟨by rw [List.length_take, h.1, Nat.min_eq_left (by omega)], .inr ⟨g, off, c, cur, rfl, hb, hh, by omega, hs, fun j u hj => hx j u ?_⟩⟩
    rw [List.getElem?_take] at hj
    split at hj
    · exact hj
    · cases hj
/-- Without the first element. -/
theorem Win.tail {g off c : Nat} (h : Win w base (.slice (some ⟨g, off, none⟩) (n + 1) c) (n + 1) xs) : Win w base (.slice (some ⟨g, off + 6, none⟩) n (c - 1)) n (xs.drop 6) := by
  rcases h.2 with ⟨_, h0⟩ | ⟨g', off', cap, cur, hv, hb, hh, hc, hs, hx⟩
  · omega
  · obtain ⟨rfl, rfl, rfl⟩ : g = g' ∧ off = off' ∧ c = cap := by injection hv with e1 e2 e3; injection e1 with e1; injection e1 with e4 e5; exact ⟨e4, e5, e3⟩
    refine ⟨by rw [List.length_drop, h.1]; omega, .inr ⟨g, off + 6, c - 1, cur, rfl, hb, hh, by omega, by omega, fun j u hj => ?_⟩⟩
    rw [List.getElem?_drop] at hj
    rw [show off + 6 + j = off + (6 + j) by omega]
    exact hx _ _ hj
end
theorem info_step : (Tryz.prog.info? 75).map (fun i => (i.zero, i.size, i.bytes)) = some (some (.agg #[.string { data := #[] }, .int .i64 0, .int .i64 0, .string { data := #[] }, .int .i64 0, .int .i64 0]), 6, 64) := by kernel_rfl
/-- One append, at a step of a region that draws. -/
theorem step_win {ops : Array Oper} {o : Oper} {a : Act} {w : World} {K : Act → World → Prop} {Q : Exit → Act → World → Prop} {E : Prop} (hg : o.guard = none) (s x : Operand)
    (hop : o.op = Op.call { callee := Callee.builtin Builtin.append, args := #[s, x], argTypes := #[43, 43] })
    (base n : Nat) (v : Value) (xs : List Value) (hs : a.eval s = v) (hw : Win w base v n xs) (g : Nat) (hx : a.eval x = .slice (some ⟨g, 0, none⟩) 1 1) (cs : Array Value) (hcs : cs.size = 6) (hone : ∀ u ∈ cs.toList, u.oneCell' = true) (hgb : w.heap[g]? = some (.cells cs 75 (0, 0))) (hn : n ≤ 1000000) (hbase : base ≤ w.heap.size)
    (hK : ∀ v' w', Win w' base v' (n + 1) (xs ++ cs.toList) → w.grownBy w' v.ownBlock → (∀ k, v'.ownBlock = some k → v.ownBlock = some k ∨ w.heap.size ≤ k) → K (a.put o.dst v') w') :
    if Region.wanted o (yielded ops a.tmps) = true then Oper.wp Tryz.prog o a w K Q else E := by
  obtain ⟨i0, hi, hz0, hz1, hz2⟩ := info_parts info_step
  have hnews : ∀ j u, cs.toList[j]? = some u → w.cell? ((⟨g, 0, none⟩ : Addr).add j) = some u := fun j u hj => by
    have : (⟨g, 0, none⟩ : Addr).add j = ⟨g, j, none⟩ := by
      rw [Addr.add_lit, Nat.zero_add]
    rw [this, blk_cell hgb]
    simpa using hj
  have hlen : cs.toList.length = 1 * 6 := by simp [hcs]
  have grow : ∀ (ao : Option Addr) (cap : Nat), v = .slice ao n cap → (ao = none → n = 0 ∧ cap = 0) → cap < n + 1 → (∀ b, ao = some b → ∀ j u, xs[j]? = some u → w.cell? (b.add j) = some u) → (if Region.wanted o (yielded ops a.tmps) = true then Oper.wp Tryz.prog o a w K Q else E) := by
    intro ao cap hv hnone hfull holds
    subst hv
    refine step_append_grows hg s x 43 hop 75 i0 _ 6 64 Tryz.underlying43 hi hz0 hz1 hz2 rfl (by decide) ao n cap xs hs hnone hw.1 holds ⟨g, 0, none⟩ 1 1 cs.toList hx hlen hnews hone hfull (by unfold maxLen; omega) (by omega) (fun v' w' h1 h2 => hK v' w' ((Win.of_own h1).mono hbase) ⟨h2.os, h2.tape, h2.output, h2.size, fun k hk _ => h2.block k hk (by simp)⟩ (fun k hk => .inr (own_ge h1 k hk)))
  rcases hw.2 with ⟨hv, h0⟩ | ⟨g1, off, cap, cur, hv, hb, hh, hc, hsz, hxx⟩
  · exact grow none 0 (by rw [hv, h0]) (fun _ => ⟨h0, rfl⟩) (by omega) (fun b hb => by cases hb)
  · by_cases hroom : n + 1 ≤ cap
    · subst hv
      obtain ⟨cur', e1, e2, e3, e4, e5⟩ := setCells_heap cs.toList (off + n * 6) w cur hh (by rw [hlen]; omega)
      refine step_append_room hg s x 43 hop 75 i0 6 Tryz.underlying43 hi hz1 g1 off n cap hs ⟨g, 0, none⟩ 1 1 cs.toList hx hlen hnews hone hroom (fun j hj => ⟨?_, ?_⟩) (hK _ _ ⟨?_, .inr ⟨g1, off, cap, cur', rfl, hb, e1, hroom, by omega, fun j u hj => ?_⟩⟩ e5 (fun k hk => .inl hk))
      · rw [hlen] at hj
        rw [blk_cell hh, Array.getElem?_eq_getElem (by omega)]
        rfl
      · exact blk_frozen hh _
      · rw [List.length_append, hw.1, hlen]
        omega
      · by_cases hjn : j < n * 6
        · rw [List.getElem?_append_left (by rw [hw.1]; exact hjn)] at hj
          rw [e4 (off + j) (by omega)]
          exact hxx j u hj
        · rw [List.getElem?_append_right (by rw [hw.1]; omega), hw.1] at hj
          have := e3 (j - n * 6) u hj
          rwa [show off + n * 6 + (j - n * 6) = off + j by omega] at this
    · refine grow (some ⟨g1, off, none⟩) cap hv (fun h => by cases h) (by omega) (fun b hb j u hj => ?_)
      injection hb with hb
      subst hb
      have : (⟨g1, off, none⟩ : Addr).add j = ⟨g1, off + j, none⟩ := by rw [Addr.add_lit]
      rw [this, blk_cell hh]
      exact hxx j u hj
end Go.Proofs.YtcfgpmmclijonaaGreatDoor

/- Layer 25, the reference: a change. -/
namespace Go.Proofs.YtcfgpmmclijonaaGreatDoor
set_option linter.unusedVariables false
set_option linter.unusedSimpArgs false
set_option maxRecDepth 100000
open Go.RowKit Go.Shelf Go.Lib
set_option maxRecDepth 100000
set_option maxHeartbeats 8000000

def stV (s : Stp) : Array Value := #[.string s.u.b, .int .i64 (s.u.x : Int), .int .i64 (s.u.y : Int), .string s.v.b, .int .i64 (s.v.x : Int), .int .i64 (s.v.y : Int)]
def sts : List Stp → List Value
  | [] => []
  | s :: L => .string s.u.b :: .int .i64 (s.u.x : Int) :: .int .i64 (s.u.y : Int) :: .string s.v.b :: .int .i64 (s.v.x : Int) :: .int .i64 (s.v.y : Int) :: sts L
theorem sts_append : ∀ (L M : List Stp), sts (L ++ M) = sts L ++ sts M
  | [], _ => rfl
  | s :: L, M => by simp [sts, sts_append L M]
theorem sts_snoc (L : List Stp) (s : Stp) : sts (L ++ [s]) = sts L ++ (stV s).toList := by rw [sts_append]; rfl
theorem sts_len : ∀ L : List Stp, (sts L).length = L.length * 6
  | [] => rfl
  | s :: L => by simp only [sts, List.length_cons, sts_len L]; omega
theorem sts_drop (s : Stp) (L : List Stp) : (sts (s :: L)).drop 6 = sts L := rfl
theorem sts_take (L M : List Stp) : (sts (L ++ M)).take (L.length * 6) = sts L := by rw [sts_append, ← sts_len L, List.take_left]
theorem stV_one (s : Stp) : ∀ u ∈ (stV s).toList, u.oneCell' = true := by
  intro u h
  simp only [stV, List.mem_cons, List.not_mem_nil, or_false] at h
  rcases h with rfl | rfl | rfl | rfl | rfl | rfl <;> rfl
/-- A reference's editor. -/
structure RdS (w : World) (base g : Nat) (b : ByteArray) (x y : Nat) (Bs Os : List Stp) (Bk On : Value) : Prop where
  at_ : RdAt w g b x y Bk On
  wb : Win w base Bk Bs.length (sts Bs)
  wo : Win w base On Os.length (sts Os)
  ap : ∀ k, Bk.ownBlock = some k → On.ownBlock ≠ some k
def RFoot (g : Nat) (Bk On : Value) (k : Nat) : Prop := k = g ∨ Bk.ownBlock = some k ∨ On.ownBlock = some k
section
variable {w w' : World} {base g : Nat} {b : ByteArray} {x y : Nat} {Bs Os : List Stp} {Bk On : Value}
theorem RdS.on (h : RdS w base g b x y Bs Os Bk On) (hb : Below w.heap.size w w') : RdS w' base g b x y Bs Os Bk On := ⟨h.at_.on hb, h.wb.on hb, h.wo.on hb, h.ap⟩
theorem RdS.text (h : RdS w base g b x y Bs Os Bk On) {b' : ByteArray} {x' y' : Nat} (ha : RdAt w' g b' x' y' Bk On) (hg : w.grownBy w' (some g)) : RdS w' base g b' x' y' Bs Os Bk On :=
  ⟨ha, h.wb.same fun k hk => hg.block k (h.wb.lt k hk).2 (fun e => by have := h.wb.ne h.at_ (by decide); exact this (by rw [hk, e])), h.wo.same fun k hk => hg.block k (h.wo.lt k hk).2 (fun e => by have := h.wo.ne h.at_ (by decide); exact this (by rw [hk, e])), h.ap⟩
end
theorem RdS.push {w wd wz : World} {base g n : Nat} {b : ByteArray} {x y : Nat} {Bs Os : List Stp} {Bk On v' : Value} {xs : List Value} (h : RdS w base g b x y Bs Os Bk On) (hD : Below w.heap.size w wd) (j1 : Win wz base v' n xs) (j2 : wd.grownBy wz Bk.ownBlock) (j3 : ∀ k, v'.ownBlock = some k → Bk.ownBlock = some k ∨ wd.heap.size ≤ k) (hzg : RdAt wz g b x y Bk On) :
    RdAt (wz.setCell ⟨g, 3, none⟩ v') g b x y v' On ∧ Win (wz.setCell ⟨g, 3, none⟩ v') base v' n xs ∧ Win (wz.setCell ⟨g, 3, none⟩ v') base On Os.length (sts Os) ∧ Turn (RFoot g Bk On) w (wz.setCell ⟨g, 3, none⟩ v') ∧ (∀ k, v'.ownBlock = some k → Bk.ownBlock = some k ∨ w.heap.size ≤ k) := by
  have hsz := hD.size
  have hwo : Win wz base On Os.length (sts Os) := (h.wo.on hD).same fun k hk => j2.block k ((h.wo.on hD).lt k hk).2 (fun e => h.ap k e.symm hk)
  refine ⟨store_in hzg, j1.same fun k hk => heap_setCell_other _ _ _ _ (fun e => ?_), hwo.same fun k hk => heap_setCell_other _ _ _ _ (fun e => ?_), ((Turn.of_below hD).trans (Turn.grown j2 (fun k hk => .inr (.inl hk)))).trans (Turn.set (p := ⟨g, 3, none⟩) (.inl rfl) _), fun k hk => ?_⟩
  · exact j1.ne hzg (by decide) (by rw [hk, e])
  · exact hwo.ne hzg (by decide) (by rw [hk, e])
  · rcases j3 k hk with h1 | h1
    · exact .inl h1
    · exact .inr (by omega)
theorem sts_drop1 : ∀ L : List Stp, (sts L).drop 6 = sts (L.drop 1)
  | [] => rfl
  | s :: L => rfl
theorem RdS.cut {wc : World} {base g : Nat} {b : ByteArray} {x y : Nat} {Bk On : Value} {L : List Stp} (m1 : RdAt wc g b x y Bk On) (m2 : Win wc base Bk L.length (sts L)) : RdS (wc.setCell ⟨g, 4, none⟩ (.slice none 0 0)) base g b x y L [] Bk (.slice none 0 0) :=
  ⟨store_in m1, m2.same fun k hk => heap_setCell_other _ _ _ _ (fun e => m2.ne m1 (by decide) (by rw [hk, e])), Win.nil _ _, fun k _ h => by cases h⟩
theorem RdS.cut3 {wc : World} {base g : Nat} {b : ByteArray} {x y : Nat} {Bk On v : Value} {L : List Stp} (m1 : RdAt wc g b x y Bk On) (m2 : Win wc base v L.length (sts L)) : RdAt (wc.setCell ⟨g, 3, none⟩ v) g b x y v On ∧ Win (wc.setCell ⟨g, 3, none⟩ v) base v L.length (sts L) :=
  ⟨store_in m1, m2.same fun k hk => heap_setCell_other _ _ _ _ (fun e => m2.ne m1 (by decide) (by rw [hk, e]))⟩
def cap256 (L : List Stp) : List Stp := if 256 < L.length then L.drop 1 else L
section
variable {w : World} {base g : Nat} {b : ByteArray} {x y : Nat} {Bs Os : List Stp} {Bk On : Value}
theorem rchange_long (h : RdAt w g b x y Bk On) (s : ByteArray) (lo hi : Nat) (hlh : lo ≤ hi) (hhb : hi ≤ b.size) (hb : b.size ≤ 65536) (hs : s.size ≤ 1000000) (hl : 65536 < b.size - (hi - lo) + s.size) :
    Calls Tryz.prog 26 #[.pointer (some ⟨g, 0, none⟩), .string s, .int .i64 (lo : Int), .int .i64 (hi : Int)] w fun e w' => e = .returned (.int .i64 3) ∧ Below w.heap.size w w' := by
  obtain ⟨c0, c1, c2, c3, c4⟩ := h.cells
  have lg := h.lt
  have k1 : decide ((65536 : Int) < (b.size : Int) - ((hi : Int) - (lo : Int)) + (s.size : Int)) = true := decide_eq_true (by omega)
  have k2 : (65536 : Int) < (b.size : Int) - ((hi : Int) - (lo : Int)) + (s.size : Int) := by omega
  clear h
  go_enter Tryz.func26, Tryz.ntmps26
  go_wp2
  go_ret
  exact ⟨rfl, Below.refl _ _⟩
theorem rchange_none (h : RdAt w g b x y Bk On) (lo : Nat) (hhb : lo ≤ b.size) (hb : b.size ≤ 65536) (s : ByteArray) (hs : s.size = 0) :
    Calls Tryz.prog 26 #[.pointer (some ⟨g, 0, none⟩), .string s, .int .i64 (lo : Int), .int .i64 (lo : Int)] w fun e w' => e = .returned (.int .i64 0) ∧ Below w.heap.size w w' := by
  obtain ⟨c0, c1, c2, c3, c4⟩ := h.cells
  have lg := h.lt
  have hse : (s.toList == []) = true := by
    rw [ByteArray.toList_eq, List.eq_nil_of_length_eq_zero (show s.data.toList.length = 0 by rw [ba_len]; exact hs)]
    rfl
  have k1 : decide ((65536 : Int) < (b.size : Int) - ((lo : Int) - (lo : Int)) + (s.size : Int)) = false := decide_eq_false (by omega)
  have k2 : ¬ (65536 : Int) < (b.size : Int) - ((lo : Int) - (lo : Int)) + (s.size : Int) := by omega
  have k3 : ¬ (65536 : Int) < (b.size : Int) := by omega
  have k4 : decide ((65536 : Int) < (b.size : Int)) = false := decide_eq_false k3
  have k5 : ¬ (65536 : Int) < (b.size : Int) + (s.size : Int) := by omega
  have k6 : decide ((65536 : Int) < (b.size : Int) + (s.size : Int)) = false := decide_eq_false k5
  clear h
  go_enter Tryz.func26, Tryz.ntmps26
  go_wp2
  go_ret
  exact ⟨rfl, Below.refl _ _⟩
def RChg (w : World) (base g : Nat) (b : ByteArray) (x y : Nat) (Bs : List Stp) (Bk On : Value) (s : ByteArray) (lo hi : Nat) (e : Ending) (w' : World) : Prop := ∃ z Bk', e = .returned (.int .i64 0) ∧ z = settledE (cat3 b s lo hi).data.toList (lo + s.size) ∧
  RdS w' base g (cat3 b s lo hi) z z (cap256 (Bs ++ [⟨⟨b, x, y⟩, ⟨cat3 b s lo hi, z, z⟩⟩])) [] Bk' (.slice none 0 0) ∧ Turn (RFoot g Bk On) w w' ∧ (∀ k, Bk'.ownBlock = some k → Bk.ownBlock = some k ∨ w.heap.size ≤ k)
theorem rchange_any (h : RdS w base g b x y Bs Os Bk On) (hbase : base ≤ g) (s : ByteArray) (lo hi : Nat) (hlh : lo ≤ hi) (hhb : hi ≤ b.size) (hb : b.size ≤ 65536) (hs : s.size ≤ 1000000) (hl : b.size - (hi - lo) + s.size ≤ 65536) (hd : ¬ (lo = hi ∧ s.size = 0)) (hk : Bs.length ≤ 256) :
    Calls Tryz.prog 26 #[.pointer (some ⟨g, 0, none⟩), .string s, .int .i64 (lo : Int), .int .i64 (hi : Int)] w (RChg w base g b x y Bs Bk On s lo hi) := by
  obtain ⟨c0, c1, c2, c3, c4⟩ := h.at_.cells
  have lg := h.at_.lt
  have HH := hid h
  have k1 : decide ((65536 : Int) < (b.size : Int) - ((hi : Int) - (lo : Int)) + (s.size : Int)) = false := decide_eq_false (by omega)
  have k2 : ¬ (65536 : Int) < (b.size : Int) - ((hi : Int) - (lo : Int)) + (s.size : Int) := by omega
  have hse : (s.toList == []) = decide (s.size = 0) := by
    rw [ByteArray.toList_eq, ← ba_len]
    cases s.data.toList <;> simp
  have hcase : (((lo : Int) == (hi : Int)) = false) ∨ (((lo : Int) == (hi : Int)) = true ∧ (s.toList == []) = false) := by
    by_cases h : lo = hi
    · exact .inr ⟨beq_iff_eq.2 (by omega), by rw [hse]; exact decide_eq_false (fun h' => hd ⟨h, h'⟩)⟩
    · exact .inl (beq_eq_false_iff_ne.2 (by omega))
  have v1 : ¬ 9223372036854775807 < lo + s.size := by omega
  have v2 : ¬ 9223372036854775807 < lo + s.size + (b.size - hi) := by omega
  have v3 : (lo : Int) ≤ (b.size : Int) := by omega
  have v4 : (hi : Int) ≤ (b.size : Int) := by omega
  have v5 : lo ≤ b.size := by omega
  have hcs := cat3_size (s := s) hlh hhb
  have CS := fun w1 => reset_any (cat3 b s lo hi) (lo + s.size) w1 (by omega) (by omega)
  obtain ⟨z, hz⟩ : ∃ z, settledE (cat3 b s lo hi).data.toList (lo + s.size) = z := ⟨_, rfl⟩
  rw [hz] at CS
  obtain ⟨nb, hnb⟩ : ∃ y, cat3 b s lo hi = y := ⟨_, rfl⟩
  rw [hnb] at CS
  have HNBB : Hid (b.extract 0 lo ++ s ++ b.extract hi b.size = nb) := hid hnb
  simp only [Int.natCast_add] at CS
  have HZ := hid (And.intro hz hnb)
  have HCS := hid CS
  have hba := (Below.refl w.heap.size w).alloc (Nat.le_refl _) (.cells #[.string b, .int .i64 (x : Int), .int .i64 (y : Int)] 39)
  have hbl : (w.alloc (.cells #[.string b, .int .i64 (x : Int), .int .i64 (y : Int)] 39)).heap[w.heap.size]? = some (.cells #[.string b, .int .i64 (x : Int), .int .i64 (y : Int)] 39 (0, 0)) := World.alloc_heap_new _ _
  have H1 := hid (h.on hba)
  have HBL := hid hbl
  have hw1 : (w.alloc (.cells #[.string b, .int .i64 (x : Int), .int .i64 (y : Int)] 39)).heap.size = w.heap.size + 1 := World.size_alloc _ _
  have HBA := hid hba
  clear h hz CS hse hd hbl hba hnb hcs
  rcases hcase with q1 | ⟨q1, q2⟩
  all_goals
    go_enter Tryz.func26, Tryz.ntmps26
    go_wp2
    generalize w.alloc (.cells #[.string b, .int .i64 (x : Int), .int .i64 (y : Int)] 39) = w1 at *
    refine region_ext mixed (by kernel_rfl) ?_
    (repeat (go_big_quiet_step (fail)))
    refine wpQuiet_nil ?_
    intro w4 hb4
    have H4 := hid (H1.out.on hb4)
    have HBL4 := hid ((hb4.block _ (lt_of_block HBL.out)).trans HBL.out)
    have hB4 := HBA.out.trans (hb4.mono HBA.out.size)
    have HB4 := hid hB4
    clear c0 c1 c2 c3 c4 H1 HBL HBA hb4 hB4
    go_wp2_with fail
    rw [HNBB.out]
    with_reducible refine (HCS.out _).mono ?_
    rintro e w5 ⟨rfl, hb5⟩
    have h5 := H4.out.on hb5
    have HBL5 := hid ((hb5.block _ (lt_of_block HBL4.out)).trans HBL4.out)
    have HB5 := hid (HB4.out.trans (hb5.mono HB4.out.size))
    obtain ⟨c0, c1, c2, c3, c4⟩ := h5.at_.cells
    have f := h5.at_.free
    have lg5 := h5.at_.lt
    have hgw : g ≠ w.heap.size := by omega
    obtain ⟨W, hW⟩ : ∃ W, ((w5.setCell ⟨g, 0, none⟩ (.string nb)).setCell ⟨g, 1, none⟩ (.int .i64 (z : Int))).setCell ⟨g, 2, none⟩ (.int .i64 (z : Int)) = W := ⟨_, rfl⟩
    have hat : RdAt W g nb z z Bk On := by
      rw [← hW]
      exact store_in (store_in (store_in h5.at_))
    have hgr : w5.grownBy W (some g) := by
      rw [← hW]
      exact grown_cell (grown_cell (grown_cell (World.grownBy.refl _ _)))
    have hR : RdS W base g nb z z Bs Os Bk On := h5.text hat hgr
    have hbl : W.heap[w.heap.size]? = some (.cells #[.string b, .int .i64 (x : Int), .int .i64 (y : Int)] 39 (0, 0)) := (hgr.block _ (lt_of_block HBL5.out) (fun e => hgw (by injection e with e; exact e.symm))).trans HBL5.out
    have HW := hid hW
    have HR := hid hR
    have HBLW := hid hbl
    have HGR := hid hgr
    clear hat hR hbl hgr hW h5 H4 HBL4 HB4
    go_upto_region 10 with fail
    rw [HW.out]
    clear c0 c1 c2 c3 c4 f lg5
    go_cut [] from 62 to 76 (fun wx => ∃ Bk', RdAt wx g nb z z Bk' On ∧ Win wx base Bk' (Bs.length + 1) (sts (Bs ++ [⟨⟨b, x, y⟩, ⟨nb, z, z⟩⟩])) ∧ Win wx base On Os.length (sts Os) ∧ Turn (RFoot g Bk On) W wx ∧ (∀ k, Bk'.ownBlock = some k → Bk.ownBlock = some k ∨ W.heap.size ≤ k))
    case first =>
      have hmx := mixed
      obtain ⟨c0, c1, c2, c3, c4⟩ := HR.out.at_.cells
      have f3 := HR.out.at_.free 3
      have lgW := HR.out.at_.lt
      have d0 := blk_cell HBLW.out 0
      have d1 := blk_cell HBLW.out 1
      have d2 := blk_cell HBLW.out 2
      have lb := lt_of_block HBLW.out
      have hbD := ((Below.refl W.heap.size W).alloc (Nat.le_refl _) (.cells #[.string b, .int .i64 (x : Int), .int .i64 (y : Int), .string nb, .int .i64 (z : Int), .int .i64 (z : Int)] 75)).drew
      have HBD := hid hbD
      have hgD : (W.alloc (.cells #[.string b, .int .i64 (x : Int), .int .i64 (y : Int), .string nb, .int .i64 (z : Int), .int .i64 (z : Int)] 75)).drew.heap[W.heap.size]? = some (.cells (stV ⟨⟨b, x, y⟩, ⟨nb, z, z⟩⟩) 75 (0, 0)) := World.alloc_heap_new W _
      have HGD := hid hgD
      have hbW : base ≤ (W.alloc (.cells #[.string b, .int .i64 (x : Int), .int .i64 (y : Int), .string nb, .int .i64 (z : Int), .int .i64 (z : Int)] 75)).drew.heap.size := by
        have := hbD.size
        omega
      have HBW := hid hbW
      clear hbD hgD hbW
      go_region_law (refine step_win rfl (.tmp 66) (.tmp 73) rfl base Bs.length Bk (sts Bs) (by simp [Act.eval, Act.put]) (HR.out.wb.on HBD.out) W.heap.size (by simp [Act.eval, Act.put]) (stV ⟨⟨b, x, y⟩, ⟨nb, z, z⟩⟩) rfl (stV_one _) HGD.out (by omega) HBW.out (fun v' wz j1 j2 j3 => ?_)
                     obtain ⟨A', cc, rfl⟩ := j1.shape
                     have hzg : RdAt wz g nb z z Bk On := by
                       have q := HR.out.at_.on HBD.out
                       have hne := (HR.out.wb.on HBD.out).ne q (by decide)
                       unfold RdAt at q ⊢
                       rw [j2.block g (lt_of_block q) (fun e => hne e.symm)]
                       exact q
                     obtain ⟨z0, z1, z2, z3, z4⟩ := hzg.cells
                     have zf := hzg.free 3
                     have zl := hzg.lt
                     have HZZ := hid (And.intro j1 (And.intro j2 (And.intro j3 hzg)))
                     clear j1 j2 j3 hzg)
      all_goals go_wp2
      all_goals go_meet
      all_goals
        obtain ⟨j1, j2, j3, hzg⟩ := HZZ.out
        exact ⟨_, HR.out.push HBD.out (by rw [sts_snoc]; exact j1) j2 j3 hzg⟩
    case rest =>
      obtain ⟨Bk', m1, m2, m3, m4, m5⟩ := hcut
      have HTW := hid ((Turn.of_below HB5.out).trans ((Turn.grown HGR.out (fun k hk => by injection hk with hk; exact .inl hk.symm)).trans m4))
      have hsW := HGR.out.size
      have hs5 := HB5.out.size
      rcases m2.2 with ⟨_, h0⟩ | ⟨g1, off, cap, cur, rfl, hb1, hh1, hc1, hsz1, hx1⟩
      · omega
      have HM := hid (And.intro m1 (And.intro m2 (And.intro m3 m5)))
      obtain ⟨c0, c1, c2, c3, c4⟩ := m1.cells
      have f := m1.free
      have lgc := m1.lt
      clear m1 m2 m3 m4 m5 hh1 hsz1 hx1 hb1
      by_cases h256 : Bs.length < 256
      · have r1 : decide ((256 : Int) < (Bs.length : Int) + 1) = false := decide_eq_false (by omega)
        have r2 : ¬ (256 : Int) < (Bs.length : Int) + 1 := by omega
        have r3 : ¬ 256 < Bs.length + 1 := by omega
        go_wp2
        obtain ⟨m1, m2, m3, m5⟩ := HM.out
        have hc256 : cap256 (Bs ++ [⟨⟨b, x, y⟩, ⟨nb, z, z⟩⟩]) = Bs ++ [⟨⟨b, x, y⟩, ⟨nb, z, z⟩⟩] := by
          unfold cap256
          rw [if_neg (by rw [List.length_append]; simp; omega)]
        refine bodyPost_ret (v := .int .i64 0) (by simp [results, Tryz.results26, go_sem, *]) rfl ⟨z, _, rfl, HZ.out.1.symm, by rw [HZ.out.2, hc256]; exact RdS.cut m1 (by rw [List.length_append]; exact m2), HTW.out.trans (Turn.set (p := ⟨g, 4, none⟩) (.inl rfl) _), fun k hk => by rcases m5 k hk with h | h; exact .inl h; exact .inr (by omega)⟩
      · have h257 : Bs.length = 256 := by omega
        have r1 : decide ((256 : Int) < (Bs.length : Int) + 1) = true := decide_eq_true (by omega)
        have r2 : (256 : Int) < (Bs.length : Int) + 1 := by omega
        have r4 : (1 : Int) ≤ (Bs.length : Int) + 1 := by omega
        have H257 := hid h257
        clear h257
        go_wp2
        obtain ⟨m1, m2, m3, m5⟩ := HM.out
        have hln : (Bs ++ [(⟨⟨b, x, y⟩, ⟨nb, z, z⟩⟩ : Stp)]).length = Bs.length + 1 := by rw [List.length_append]; rfl
        have hc256 : cap256 (Bs ++ [(⟨⟨b, x, y⟩, ⟨nb, z, z⟩⟩ : Stp)]) = (Bs ++ [(⟨⟨b, x, y⟩, ⟨nb, z, z⟩⟩ : Stp)]).drop 1 := by
          unfold cap256
          rw [if_pos (by rw [hln, H257.out]; decide)]
        have hdl : ((Bs ++ [(⟨⟨b, x, y⟩, ⟨nb, z, z⟩⟩ : Stp)]).drop 1).length = Bs.length := by rw [List.length_drop, hln]; rfl
        have mt := m2.tail
        rw [sts_drop1] at mt
        have m7 := RdS.cut3 m1 (L := (Bs ++ [(⟨⟨b, x, y⟩, ⟨nb, z, z⟩⟩ : Stp)]).drop 1) (by rw [hdl]; exact mt)
        have hfin : RChg w base g b x y Bs Bk On s lo hi (.returned (.int .i64 0)) ((wc.setCell ⟨g, 3, none⟩ (.slice (some ⟨g1, off + 6, none⟩) Bs.length (cap - 1))).setCell ⟨g, 4, none⟩ (.slice none 0 0)) := ⟨z, _, rfl, HZ.out.1.symm, by rw [HZ.out.2, hc256]; exact RdS.cut m7.1 m7.2, (HTW.out.trans (Turn.set (p := ⟨g, 3, none⟩) (.inl rfl) _)).trans (Turn.set (p := ⟨g, 4, none⟩) (.inl rfl) _), fun k hk => by rcases m5 k hk with h | h; exact .inl h; exact .inr (by omega)⟩
        clear m1 m2 m3 m5 hln hc256 hdl mt m7
        refine bodyPost_ret (v := .int .i64 0) (by simp [results, Tryz.results26, go_sem, *]) rfl hfin
end
end Go.Proofs.YtcfgpmmclijonaaGreatDoor
