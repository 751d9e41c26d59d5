/- Layer 5: Look, the reference's. (Printed by gen_v.py.) -/
import Derived.Test.YtoiondgcjbdonaaDoorStU
import Derived.Deep.DeepCutAuto
namespace Go.Proofs.YtoiondgcjbdonaaDoor
set_option linter.unusedVariables false
set_option linter.unusedSimpArgs false
set_option maxRecDepth 100000
open Go.RowKit Go.Shelf Go.Lib Go.Sort

def put0 (f : Nat → Lk) (out : Lk) (n : Int) : Lk := if 0 ≤ n then { out with has := out.has ||| 1, col := (f n.toNat).col } else out
def put1 (f : Nat → Lk) (out : Lk) (n : Int) : Lk := if 0 ≤ n then { out with has := out.has ||| 2, bak := (f n.toNat).bak } else out
def put2 (f : Nat → Lk) (out : Lk) (n : Int) : Lk := if 0 ≤ n then { out with has := out.has ||| 4, brd := (f n.toNat).brd } else out
def put3 (f : Nat → Lk) (out : Lk) (n : Int) : Lk := if 0 ≤ n then { out with has := out.has ||| 8, pad := (f n.toNat).pad } else out
theorem puts_four (f : Nat → Lk) (n0 n1 n2 n3 : Int) : put3 f (put2 f (put1 f (put0 f Lk.none n0) n1) n2) n3 = four f n0 n1 n2 n3 := by
  have e : ∀ n : Int, 0 ≤ n → ¬ n < 0 := fun n h => by omega
  unfold put0 put1 put2 put3 four mk4 lookAt
  by_cases h0 : 0 ≤ n0 <;> by_cases h1 : 0 ≤ n1 <;> by_cases h2 : 0 ≤ n2 <;> by_cases h3 : 0 ≤ n3
  all_goals
    simp only [h0, h1, h2, h3, if_true, if_false, decide_true, decide_false, Bool.false_eq_true]
    simp [Lk.none, nib, *]
theorem four_look (L : List Ru) (hin : ∀ r ∈ L, r.In) (kind : Nat) (cls : List UInt8) (st : Nat) :
    four (fR L) (whichR L kind cls st 1) (whichR L kind cls st 2) (whichR L kind cls st 4) (whichR L kind cls st 8) = foldO (fR L) (hR L kind cls st) (ordN L) Lk.none := by
  have h8 : ∀ i ∈ ordN L, (fR L i).has < 256 := fun i hi => by rw [fR_get (ordN_mem i hi)]; exact (hin _ (List.getElem_mem (ordN_mem i hi))).2.2.1.1
  rw [foldO_look h8]
  unfold lookL whichR
  rw [whichL_congr (P := toldR L kind cls st 1) (P' := tells (fR L) (hR L kind cls st) 0) (fun i hi => by unfold toldR tells; congr 1; exact tl1 (h8 i hi)),
    whichL_congr (P := toldR L kind cls st 2) (P' := tells (fR L) (hR L kind cls st) 1) (fun i hi => by unfold toldR tells; congr 1; exact tl2 (h8 i hi)),
    whichL_congr (P := toldR L kind cls st 4) (P' := tells (fR L) (hR L kind cls st) 2) (fun i hi => by unfold toldR tells; congr 1; exact tl4 (h8 i hi)),
    whichL_congr (P := toldR L kind cls st 8) (P' := tells (fR L) (hR L kind cls st) 3) (fun i hi => by unfold toldR tells; congr 1; exact tl8 (h8 i hi))]
theorem which_nat {P : Nat → Bool} {o : List Nat} (h : 0 ≤ whichL P o (-1)) : ∃ i ∈ o, whichL P o (-1) = (i : Int) := by
  obtain ⟨i, h1, _, h3⟩ := whichL_mem (P := P) (o := o) (by omega)
  exact ⟨i, h1, h3⟩

/-- What stays while the things are asked one by one. -/
structure RkSt (w : World) (L : List Ru) (g ob : Nat) (cs : Array Value) (wr : World) : Prop where
  bel : Below w.heap.size w wr
  own : wr.ownsRow w.heap.size 3 1 (.slice (some ⟨g, 0, none⟩) L.length L.length) L.length (ints (ordI L))
  res : wr.heap[w.heap.size]? = some (.cells #[.int .u8 0, .int .u8 0, .int .u8 0, .int .u8 0, .int .u8 0, .int .u8 0, .int .u8 0, .int .u8 0, .int .u8 0, .bool false, .int .i64 0] 32 (0, 0))
  now : wr.heap[ob]? = some (.cells cs 32 (0, 0))
  go : g ≠ ob
  wo : w.heap.size < ob
theorem RkSt.on {w wr w' : World} {L : List Ru} {g ob : Nat} {cs : Array Value} (h : RkSt w L g ob cs wr) (hb : Below wr.heap.size wr w') : RkSt w L g ob cs w' where
  bel := h.bel.trans (hb.mono h.bel.size)
  own := own_below' h.own hb
  res := (hb.block _ (lt_of_block h.res)).trans h.res
  now := (hb.block _ (lt_of_block h.now)).trans h.now
  go := h.go
  wo := h.wo
theorem RkSt.set {w wr : World} {L : List Ru} {g ob : Nat} {cs : Array Value} (h : RkSt w L g ob cs wr) (i : Nat) (v : Value) : RkSt w L g ob (cs.setIfInBounds i v) (wr.setCell ⟨ob, i, none⟩ v) where
  bel := h.bel.setCell (p := ⟨ob, i, none⟩) (by have := h.wo; show w.heap.size ≤ ob; omega) v
  own := own_off h.own (by intro e; cases e; exact h.go rfl)
  res := by rw [heap_setCell_other _ _ _ _ (by have := h.wo; show w.heap.size ≠ ob; omega)]; exact h.res
  now := heap_setCell_same _ _ _ _ _ _ h.now
  go := h.go
  wo := h.wo

set_option maxHeartbeats 4000000 in
set_option maxRecDepth 100000 in
theorem rLook_bad (B : Nat) (A : Option Addr) (c : Nat) (L : List Ru) (hin : ∀ r ∈ L, r.In) (w : World) (hT : Tabs w) (hA : At B w A (rus L)) (hB : B ≤ w.heap.size) (hl : L.length ≤ 9000000000000000000) (kind st : Nat) (cls : ByteArray) (hc : chkE L ≠ 0) :
    Calls Tryd.prog 16 #[.slice A L.length c, .int .u8 (kind : Int), .string cls, .int .u8 (st : Int)] w fun e w' => e = .returned (.tuple #[lkV Lk.none, .int .i64 (chkE L)]) ∧ Below w.heap.size w w' := by
  have C : ∀ w1, Below w.heap.size w w1 → Calls Tryd.prog 15 #[.slice A L.length c] w1 fun e w' => e = .returned (.tuple #[.slice none 0 0, .int .i64 (chkE L)]) ∧ Below w1.heap.size w1 w' := fun w1 h =>
    rOrder_bad w.heap.size A c L hin w1 (tabs_on hT h) ((hA.mono hB).below h) h.size hl hc
  generalize chkE L = E at *
  have hz : (E != 0) = true := by simpa using hc
  have HC := hid C
  clear hc hA hT C
  go_enter Tryd.func16, Tryd.ntmps16
  go_wp2_with fail
  refine (HC.out _ (by repeat (first | exact Below.refl _ _ | with_reducible refine Below.alloc ?_ (by first | (simp; done) | (simp; omega) | omega) _ | with_reducible refine Below.setCell ?_ (by first | (simp; done) | (simp; omega) | omega) _ | with_reducible refine Below.drew ?_ | with_reducible refine Below.trans ?_ (Below.mono (by assumption) (by first | (simp; done) | (simp; omega) | omega))))).mono ?_
  rintro e w1 ⟨rfl, hb1⟩
  have hblk : w1.heap[w.heap.size]? = some (.cells #[.int .u8 0, .int .u8 0, .int .u8 0, .int .u8 0, .int .u8 0, .int .u8 0, .int .u8 0, .int .u8 0, .int .u8 0, .bool false, .int .i64 0] 32 (0, 0)) := (hb1.block _ (by simp)).trans (heap_alloc_new _ _)
  have HB := hid hb1
  clear hb1
  go_wp2_with (refine wpList_store_row rfl 32 (.tmp 8) (.tmp 24) rfl w.heap.size #[.int .u8 0, .int .u8 0, .int .u8 0, .int .u8 0, .int .u8 0, .int .u8 0, .int .u8 0, .int .u8 0, .int .u8 0, .bool false, .int .i64 0] rfl rfl 32 _ hblk look_info rfl (one_lk Lk.none) ?_)
  refine bodyPost_ret (res_look2 rfl _ _ w.heap.size Lk.none _ rfl rfl ?hg) rfl ⟨rfl, ?hb⟩
  case hg => exact setRow_heap _ _ _ _ _ _ hblk
  case hb => exact below_setRow (((Below.refl _ _).alloc (Nat.le_refl _) _).trans (HB.out.mono (by simp))) (Nat.le_refl _) _

set_option maxHeartbeats 8000000 in
set_option maxRecDepth 100000 in
theorem rLook_ok (B : Nat) (A : Option Addr) (c : Nat) (L : List Ru) (hin : ∀ r ∈ L, r.In) (w : World) (hT : Tabs w) (hA : At B w A (rus L)) (hB : B ≤ w.heap.size) (kind st : Nat) (hst : st < 256) (cls : ByteArray) (hs : cls.size ≤ 5000) (hc : chkE L = 0) :
    Calls Tryd.prog 16 #[.slice A L.length c, .int .u8 (kind : Int), .string cls, .int .u8 (st : Int)] w fun e w' => e = .returned (.tuple #[lkV (foldO (fR L) (hR L kind cls.data.toList st) (ordN L) Lk.none), .int .i64 0]) ∧ Below w.heap.size w w' := by
  rw [← four_look L hin, ← puts_four]
  have hl := chk_len hc
  have C : ∀ w1, Below w.heap.size w w1 → Calls Tryd.prog 15 #[.slice A L.length c] w1 (OrdE L w1) := fun w1 h =>
    rOrder_ok w.heap.size A c L hin w1 (tabs_on hT h) ((hA.mono hB).below h) h.size hc
  have HC := hid C
  have HQ : Hid (∀ (field : Nat) w1 g, Below w.heap.size w w1 → w1.ownsRow w.heap.size 3 1 (.slice (some ⟨g, 0, none⟩) L.length L.length) L.length (ints (ordI L)) →
      Calls Tryd.prog 41 #[.slice A L.length c, .slice (some ⟨g, 0, none⟩) L.length L.length, .int .u8 (kind : Int), .string cls, .int .u8 (st : Int), .int .u8 (field : Int)] w1 fun e w' => e = .returned (.int .i64 (whichR L kind cls.data.toList st field)) ∧ Below w1.heap.size w1 w') := hid fun field w1 g hb ho => by
    have q := rwhich_any L hin (ordN L) ordN_mem A (some ⟨g, 0, none⟩) c L.length w1.heap.size kind st field hst cls (by omega) hl (by rw [ordN_len]; exact hl) w1 ((hA.below (hb.mono hB)).mono (Nat.le_trans hB hb.size)) (ordI_at ho) (Nat.le_refl _)
    rw [ordN_len] at q
    exact q
  have HA : Hid (∀ w1, Below w.heap.size w w1 → At w.heap.size w1 A (rus L)) := hid fun w1 hb => (hA.mono hB).below hb
  have HN : Hid (∀ field, 0 ≤ whichR L kind cls.data.toList st field → ∃ a : Nat, a < L.length ∧ whichR L kind cls.data.toList st field = (a : Int)) := hid fun field h => by
    obtain ⟨a, h1, h2⟩ := which_nat (P := toldR L kind cls.data.toList st field) (o := ordN L) h
    exact ⟨a, ordN_mem a h1, h2⟩
  have HF : Hid (∀ a (h : a < L.length), fR L a = L[a].look) := hid fun a h => fR_get h
  generalize fR L = F at *
  generalize hn0 : whichR L kind cls.data.toList st 1 = n0 at *
  generalize hn1 : whichR L kind cls.data.toList st 2 = n1 at *
  generalize hn2 : whichR L kind cls.data.toList st 4 = n2 at *
  generalize hn3 : whichR L kind cls.data.toList st 8 = n3 at *
  have Q0 := hid (HQ.out 1)
  have Q1 := hid (HQ.out 2)
  have Q2 := hid (HQ.out 4)
  have Q3 := hid (HQ.out 8)
  have N0 := hid (HN.out 1)
  have N1 := hid (HN.out 2)
  have N2 := hid (HN.out 4)
  have N3 := hid (HN.out 8)
  rw [hn0] at Q0 N0
  rw [hn1] at Q1 N1
  rw [hn2] at Q2 N2
  rw [hn3] at Q3 N3
  clear hn0 hn1 hn2 hn3 HQ HN
  obtain ⟨o0, ho0⟩ : ∃ x, put0 F Lk.none n0 = x := ⟨_, rfl⟩
  rw [ho0]
  obtain ⟨o1, ho1⟩ : ∃ x, put1 F o0 n1 = x := ⟨_, rfl⟩
  rw [ho1]
  obtain ⟨o2, ho2⟩ : ∃ x, put2 F o1 n2 = x := ⟨_, rfl⟩
  rw [ho2]
  obtain ⟨o3, ho3⟩ : ∃ x, put3 F o2 n3 = x := ⟨_, rfl⟩
  rw [ho3]
  have b0 : o0.has < 256 := by rw [← ho0]; unfold put0; split; exact or_lt8 (by decide) (by omega); decide
  have b1 : o1.has < 256 := by rw [← ho1]; unfold put1; split; exact or_lt8 b0 (by omega); exact b0
  have b2 : o2.has < 256 := by rw [← ho2]; unfold put2; split; exact or_lt8 b1 (by omega); exact b1
  have r0 : bits .or .u8 0 1 = ((Lk.none.has ||| 1 : Nat) : Int) := or8 0 1 (by omega) (by omega)
  have r1 : bits .or .u8 (o0.has : Int) 2 = ((o0.has ||| 2 : Nat) : Int) := or8 o0.has 2 b0 (by omega)
  have r2 : bits .or .u8 (o1.has : Int) 4 = ((o1.has ||| 4 : Nat) : Int) := or8 o1.has 4 b1 (by omega)
  have r3 : bits .or .u8 (o2.has : Int) 8 = ((o2.has ||| 8 : Nat) : Int) := or8 o2.has 8 b2 (by omega)
  have H0 := hid ho0
  have H1 := hid ho1
  have H2 := hid ho2
  have H3 := hid ho3
  have R0 := hid r0
  have R1 := hid r1
  have R2 := hid r2
  have R3 := hid r3
  clear hc hA hT hin C ho0 ho1 ho2 ho3 r0 r1 r2 r3
  go_enter Tryd.func16, Tryd.ntmps16
  go_wp2_with fail
  refine (HC.out _ (by repeat (first | exact Below.refl _ _ | with_reducible refine Below.alloc ?_ (by first | (simp; done) | (simp; omega) | omega) _ | with_reducible refine Below.setCell ?_ (by first | (simp; done) | (simp; omega) | omega) _ | with_reducible refine Below.drew ?_ | with_reducible refine Below.trans ?_ (Below.mono (by assumption) (by first | (simp; done) | (simp; omega) | omega))))).mono ?_
  rintro e w1 ⟨g, rfl, hown1, hb1⟩
  have hs1 := hb1.size
  (try simp at hs1)
  have hst0 : RkSt w L g w1.heap.size #[.int .u8 0, .int .u8 0, .int .u8 0, .int .u8 0, .int .u8 0, .int .u8 0, .int .u8 0, .int .u8 0, .int .u8 0, .bool false, .int .i64 0] (w1.alloc (.cells #[.int .u8 0, .int .u8 0, .int .u8 0, .int .u8 0, .int .u8 0, .int .u8 0, .int .u8 0, .int .u8 0, .int .u8 0, .bool false, .int .i64 0] 32)) := {
    bel := (((Below.refl _ _).alloc (Nat.le_refl _) _).trans (hb1.mono (by simp))).alloc (by omega) _
    own := own_below' (own_mono hown1 (by simp)) ((Below.refl _ _).alloc (Nat.le_refl _) _)
    res := by
      rw [heap_alloc_old _ _ (by omega), hb1.block _ (by simp)]
      exact heap_alloc_new _ _
    now := heap_alloc_new _ _
    go := by have := (hown1.lt g rfl).2; omega
    wo := by omega }
  have S0 := hid hst0
  have kb := blk_cell hst0.now
  have kf := blk_frozen hst0.now
  clear hst0 hown1 hb1
  go_upto_if 33 with (go_at_call 41; refine (Q0.out _ _ S0.out.bel S0.out.own).mono ?_; rintro e w2 ⟨rfl, hb2⟩; have SS := hid (S0.out.on hb2); clear hb2)
  go_cut [] (fun wx => RkSt w L g w1.heap.size #[.int .u8 (o0.has : Int), .int .u8 (o0.col.r : Int), .int .u8 (o0.col.g : Int), .int .u8 (o0.col.b : Int), .int .u8 (o0.col.a : Int), .int .u8 (o0.bak.r : Int), .int .u8 (o0.bak.g : Int), .int .u8 (o0.bak.b : Int), .int .u8 (o0.bak.a : Int), .bool o0.brd, .int .i64 o0.pad] wx)
  case first =>
    clear kb kf
    have kb := blk_cell SS.out.now
    have kf := blk_frozen SS.out.now
    by_cases hp : 0 ≤ n0
    · obtain ⟨a, ha, hna⟩ := N0.out hp
      subst hna
      obtain ⟨gr, oR, rfl, hg, c0, c1, c2, c3, c4, c5, c6, c7, c8, c9, c10, c11, c12, c13⟩ := (HA.out _ SS.out.bel).ru ha
      have hfa := HF.out a ha
      generalize L[a] = r at *
      have hai : (a : Int) < (L.length : Int) := by omega
      have hwo := SS.out.wo
      have hne : gr ≠ w1.heap.size := by omega
      have hput : o0 = { Lk.none with has := Lk.none.has ||| 1, col := r.look.col } := by
        rw [← H0.out]; unfold put0; rw [if_pos hp, Int.toNat_natCast, hfa]
      have HP := hid hput
      clear hput hfa hp
      have hr := R0.out
      go_wp2_with fail
      go_meet
      rw [HP.out]
      exact (((((SS.out.set 0 _).set 1 _).set 2 _).set 3 _).set 4 _)
    · have hput : o0 = Lk.none := by rw [← H0.out]; unfold put0; rw [if_neg hp]
      have HP := hid hput
      clear hput
      go_wp2_with fail
      go_meet
      rw [HP.out]
      exact SS.out
  case rest =>
    clear kb kf S0
    have S1 := hid hcut
    have kb := blk_cell hcut.now
    have kf := blk_frozen hcut.now
    clear hcut
    go_upto_if 52 with (go_at_call 41; refine (Q1.out _ _ S1.out.bel S1.out.own).mono ?_; rintro e w2 ⟨rfl, hb2⟩; have SS := hid (S1.out.on hb2); clear hb2)
    go_cut [] (fun wx => RkSt w L g w1.heap.size #[.int .u8 (o1.has : Int), .int .u8 (o1.col.r : Int), .int .u8 (o1.col.g : Int), .int .u8 (o1.col.b : Int), .int .u8 (o1.col.a : Int), .int .u8 (o1.bak.r : Int), .int .u8 (o1.bak.g : Int), .int .u8 (o1.bak.b : Int), .int .u8 (o1.bak.a : Int), .bool o1.brd, .int .i64 o1.pad] wx)
    case first =>
      clear kb kf
      have kb := blk_cell SS.out.now
      have kf := blk_frozen SS.out.now
      by_cases hp : 0 ≤ n1
      · obtain ⟨a, ha, hna⟩ := N1.out hp
        subst hna
        obtain ⟨gr, oR, rfl, hg, c0, c1, c2, c3, c4, c5, c6, c7, c8, c9, c10, c11, c12, c13⟩ := (HA.out _ SS.out.bel).ru ha
        have hfa := HF.out a ha
        generalize L[a] = r at *
        have hai : (a : Int) < (L.length : Int) := by omega
        have hwo := SS.out.wo
        have hne : gr ≠ w1.heap.size := by omega
        have hput : o1 = { o0 with has := o0.has ||| 2, bak := r.look.bak } := by
          rw [← H1.out]; unfold put1; rw [if_pos hp, Int.toNat_natCast, hfa]
        have HP := hid hput
        clear hput hfa hp
        have hr := R1.out
        go_wp2_with fail
        go_meet
        rw [HP.out]
        exact (((((SS.out.set 0 _).set 5 _).set 6 _).set 7 _).set 8 _)
      · have hput : o1 = o0 := by rw [← H1.out]; unfold put1; rw [if_neg hp]
        have HP := hid hput
        clear hput
        go_wp2_with fail
        go_meet
        rw [HP.out]
        exact SS.out
    case rest =>
      clear kb kf S1
      have S2 := hid hcut
      have kb := blk_cell hcut.now
      have kf := blk_frozen hcut.now
      clear hcut
      go_upto_if 71 with (go_at_call 41; refine (Q2.out _ _ S2.out.bel S2.out.own).mono ?_; rintro e w2 ⟨rfl, hb2⟩; have SS := hid (S2.out.on hb2); clear hb2)
      go_cut [] (fun wx => RkSt w L g w1.heap.size #[.int .u8 (o2.has : Int), .int .u8 (o2.col.r : Int), .int .u8 (o2.col.g : Int), .int .u8 (o2.col.b : Int), .int .u8 (o2.col.a : Int), .int .u8 (o2.bak.r : Int), .int .u8 (o2.bak.g : Int), .int .u8 (o2.bak.b : Int), .int .u8 (o2.bak.a : Int), .bool o2.brd, .int .i64 o2.pad] wx)
      case first =>
        clear kb kf
        have kb := blk_cell SS.out.now
        have kf := blk_frozen SS.out.now
        by_cases hp : 0 ≤ n2
        · obtain ⟨a, ha, hna⟩ := N2.out hp
          subst hna
          obtain ⟨gr, oR, rfl, hg, c0, c1, c2, c3, c4, c5, c6, c7, c8, c9, c10, c11, c12, c13⟩ := (HA.out _ SS.out.bel).ru ha
          have hfa := HF.out a ha
          generalize L[a] = r at *
          have hai : (a : Int) < (L.length : Int) := by omega
          have hwo := SS.out.wo
          have hne : gr ≠ w1.heap.size := by omega
          have hput : o2 = { o1 with has := o1.has ||| 4, brd := r.look.brd } := by
            rw [← H2.out]; unfold put2; rw [if_pos hp, Int.toNat_natCast, hfa]
          have HP := hid hput
          clear hput hfa hp
          have hr := R2.out
          go_wp2_with fail
          go_meet
          rw [HP.out]
          exact ((SS.out.set 0 _).set 9 _)
        · have hput : o2 = o1 := by rw [← H2.out]; unfold put2; rw [if_neg hp]
          have HP := hid hput
          clear hput
          go_wp2_with fail
          go_meet
          rw [HP.out]
          exact SS.out
      case rest =>
        clear kb kf S2
        have S3 := hid hcut
        have kb := blk_cell hcut.now
        have kf := blk_frozen hcut.now
        clear hcut
        go_upto_if 90 with (go_at_call 41; refine (Q3.out _ _ S3.out.bel S3.out.own).mono ?_; rintro e w2 ⟨rfl, hb2⟩; have SS := hid (S3.out.on hb2); clear hb2)
        go_cut [] (fun wx => RkSt w L g w1.heap.size #[.int .u8 (o3.has : Int), .int .u8 (o3.col.r : Int), .int .u8 (o3.col.g : Int), .int .u8 (o3.col.b : Int), .int .u8 (o3.col.a : Int), .int .u8 (o3.bak.r : Int), .int .u8 (o3.bak.g : Int), .int .u8 (o3.bak.b : Int), .int .u8 (o3.bak.a : Int), .bool o3.brd, .int .i64 o3.pad] wx)
        case first =>
          clear kb kf
          have kb := blk_cell SS.out.now
          have kf := blk_frozen SS.out.now
          by_cases hp : 0 ≤ n3
          · obtain ⟨a, ha, hna⟩ := N3.out hp
            subst hna
            obtain ⟨gr, oR, rfl, hg, c0, c1, c2, c3, c4, c5, c6, c7, c8, c9, c10, c11, c12, c13⟩ := (HA.out _ SS.out.bel).ru ha
            have hfa := HF.out a ha
            generalize L[a] = r at *
            have hai : (a : Int) < (L.length : Int) := by omega
            have hwo := SS.out.wo
            have hne : gr ≠ w1.heap.size := by omega
            have hput : o3 = { o2 with has := o2.has ||| 8, pad := r.look.pad } := by
              rw [← H3.out]; unfold put3; rw [if_pos hp, Int.toNat_natCast, hfa]
            have HP := hid hput
            clear hput hfa hp
            have hr := R3.out
            go_wp2_with fail
            go_meet
            rw [HP.out]
            exact ((SS.out.set 0 _).set 10 _)
          · have hput : o3 = o2 := by rw [← H3.out]; unfold put3; rw [if_neg hp]
            have HP := hid hput
            clear hput
            go_wp2_with fail
            go_meet
            rw [HP.out]
            exact SS.out
        case rest =>
          clear kb kf S3
          have kb := blk_cell hcut.now
          have sres := hcut.res
          have SC := hid hcut
          clear hcut
          go_wp2_with (refine wpList_store_row rfl 32 (.tmp 8) (.tmp 102) rfl w.heap.size #[.int .u8 (o3.has : Int), .int .u8 (o3.col.r : Int), .int .u8 (o3.col.g : Int), .int .u8 (o3.col.b : Int), .int .u8 (o3.col.a : Int), .int .u8 (o3.bak.r : Int), .int .u8 (o3.bak.g : Int), .int .u8 (o3.bak.b : Int), .int .u8 (o3.bak.a : Int), .bool o3.brd, .int .i64 o3.pad] rfl rfl 32 _ sres look_info rfl (one_lk o3) ?_)
          refine bodyPost_ret (res_look2 rfl _ _ w.heap.size o3 _ rfl rfl ?hg) rfl ⟨rfl, ?hb⟩
          case hg => exact setRow_heap _ _ _ _ _ _ sres
          case hb => exact below_setRow SC.out.bel (Nat.le_refl _) _
end Go.Proofs.YtoiondgcjbdonaaDoor
