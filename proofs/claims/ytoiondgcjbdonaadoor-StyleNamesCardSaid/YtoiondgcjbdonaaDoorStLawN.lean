/- Layer 5: StyleNames: the walk (under way). -/
import Derived.Test.YtoiondgcjbdonaaDoorStNk
import Derived.Test.YtoiondgcjbdonaaDoorStLawA
import Derived.Deep.MidRow
import Derived.Laws.IdiomStrings
namespace Go.Proofs.YtoiondgcjbdonaaDoor
set_option linter.unusedVariables false
set_option linter.unusedSimpArgs false
set_option maxRecDepth 100000
open Go.RowKit Go.Shelf Go.Lib Go.Sort

theorem blk_on' {w w' : World} {k : Nat} {o : Obj} (h : w.heap[k]? = some o) (hb : Below w.heap.size w w') : w'.heap[k]? = some o := by rw [hb.block k (lt_of_block h)]; exact h
theorem below_setCells {B : Nat} {w : World} {g : Nat} (hg : B ≤ g) : ∀ (vs : List Value) (o : Nat) (x : World), Below B w x → Below B w (x.setCells g o vs)
  | [], _, _, h => h
  | v :: r, o, x, h => by
    rw [World.setCells]
    exact below_setCells hg r (o + 1) _ (h.setCell (p := ⟨g, o, none⟩) hg v)
theorem info_u8 : (Tryd.prog.info? 5).map (fun i => (i.zero, i.size, i.bytes)) = some (some (.int .u8 0), 1, 1) := by kernel_rfl
theorem one_99 : (#[.int .u8 99, .string { data := #[] }, .int .u8 0, .int .u8 0, .int .u8 0, .int .u8 0, .int .u8 0, .int .u8 0, .int .u8 0, .int .u8 0, .int .u8 0, .int .u8 0, .bool false, .int .i64 0] : Array Value).all (·.oneCell') = true := by kernel_rfl
theorem sz_rule : (Tryd.prog.info? 46).map (·.size) = some (#[.int .u8 99, .string { data := #[] }, .int .u8 0, .int .u8 0, .int .u8 0, .int .u8 0, .int .u8 0, .int .u8 0, .int .u8 0, .int .u8 0, .int .u8 0, .int .u8 0, .bool false, .int .i64 0] : Array Value).size := by kernel_rfl
def byRow (k : Nat) : List Value := List.replicate k (.int .u8 97) ++ List.replicate (65 - k) (.int .u8 0)
theorem byRow_len (k : Nat) (h : k ≤ 65) : (byRow k).length = 65 := by simp [byRow]; omega
theorem byRow_at (k : Nat) (h : k < 65) : (byRow k)[k]? = some (.int .u8 0) := by
  unfold byRow
  rw [List.getElem?_append_right (by simp), List.length_replicate, Nat.sub_self, List.getElem?_replicate, if_pos (by omega)]
theorem byRow_set (k : Nat) (h : k < 65) : (byRow k).set k (.int .u8 97) = byRow (k + 1) := by
  unfold byRow
  rw [List.set_append_right _ _ (by simp)]
  simp only [List.length_replicate, Nat.sub_self]
  rw [show 65 - k = (65 - (k + 1)) + 1 by omega, List.replicate_succ, List.set_cons_zero, List.replicate_succ' , List.append_assoc]
  rfl
section
variable {ops : Array Oper} {rest : List Oper} {o : Oper} {a : Act} {Q : Exit → Act → World → Prop} {w : World}
theorem make_bytes (hgd : o.guard = none) (l c : Operand) (ho : o.op = Op.makeSlice 53 l c) (base : Nat) (hl : a.eval l = .int .i64 65) (hc : a.eval c = .int .i64 65) (hbase : base ≤ w.heap.size)
    (h : ∀ w', w'.ownsRow base 5 1 (.slice (some ⟨w.heap.size, 0, none⟩) 65 65) 65 (byRow 0) → w.grownBy w' none → wpList Tryd.prog ops Q rest (a.put o.dst (.slice (some ⟨w.heap.size, 0, none⟩) 65 65)) w') : wpList Tryd.prog ops Q (o :: rest) a w := by
  obtain ⟨i0, hi, hz0, hz1, hz2⟩ := info_parts info_u8
  refine wpList_make_full w hgd l c 53 ho base 5 i0 _ 1 Tryd.underlying53 hi hz0 hz1 .i64 .i64 _ _ 65 hl hc rfl rfl (by rw [hz2]; omega) (by unfold maxLen; omega) hbase (fun w' h4 h5 => ?_)
  refine h w' ?_ h5
  have e : (madeCells (Value.int .u8 0).cells (65 * 1)).toList = byRow 0 := by
    simp [byRow, Value.cells, toList_madeCells_one]
  rw [← e]
  exact h4
end
/-- 'string(b)' of the first n of the bytes. -/
theorem conv_a {w : World} {base gb : Nat} (h : w.ownsRow base 5 1 (.slice (some ⟨gb, 0, none⟩) 65 65) 65 (byRow 65)) (n : Nat) (hn : n ≤ 65) :
    (convert 53 9 (.slice (some ⟨gb, 0, none⟩) n 65)).run Tryd.prog w = .ok (.string (clsA n)) w := by
  have q := run_convert_bytes_back (P := Tryd.prog) w 53 9 5 ⟨gb, 0, none⟩ 65 (List.replicate n 97) Tryd.underlying53 Tryd.underlying5 Tryd.underlying9 (fun j hj => by
    have hj' : j < n := by simpa using hj
    rw [Addr.add_mid, Nat.zero_add, h.cellAt j (by omega)]
    unfold byRow
    rw [List.getElem?_append_left (by simp; omega)]
    rw [List.getElem?_replicate, if_pos (by omega), List.getElem_replicate]
    rfl)
  rw [List.length_replicate] at q
  rw [q]
  rw [show (ByteArray.mk (List.replicate n 97).toArray) = clsA n by unfold clsA; rw [List.toArray_replicate]]
theorem alloc_there {w : World} {k : Nat} {o : Obj} (h : w.heap[k]? = some o) (o' : Obj) : (w.alloc o').heap[k]? = some o := blk_on' h ((Below.refl _ _).alloc (Nat.le_refl _) _)
theorem strong_in : ∀ r ∈ strongR, r.In := by
  intro r hr
  simp only [strongR, rPad, List.mem_cons, List.mem_nil_iff, or_false] at hr
  rcases hr with rfl | rfl
  all_goals exact ⟨by decide, by decide, ⟨by decide, by unfold Cl.In; decide, by unfold Cl.In; decide⟩, by decide⟩
theorem at_in : rAt.In := ⟨by decide, by decide, ⟨by decide, by unfold Cl.In; decide, by unfold Cl.In; decide⟩, by decide⟩
theorem beyond_in : rBeyond.In := ⟨by decide, by decide, ⟨by decide, by unfold Cl.In; decide, by unfold Cl.In; decide⟩, by decide⟩
theorem wide_in : (rPad 16384).In := ⟨by decide, by decide, ⟨by decide, by unfold Cl.In; decide, by unfold Cl.In; decide⟩, by decide⟩
theorem wider_in : (rPad 16385).In := ⟨by decide, by decide, ⟨by decide, by unfold Cl.In; decide, by unfold Cl.In; decide⟩, by decide⟩
theorem odd_in : rOdd.In := ⟨by decide, by decide, ⟨by decide, by unfold Cl.In; decide, by unfold Cl.In; decide⟩, by decide⟩
theorem wrong_in : ∀ r ∈ wrongR, r.In := by
  intro r hr
  simp only [wrongR, List.mem_cons, List.mem_nil_iff, or_false] at hr
  rcases hr with rfl | rfl | rfl | rfl | rfl | rfl
  all_goals exact ⟨by decide, by decide, ⟨by decide, by unfold Cl.In; decide, by unfold Cl.In; decide⟩, by decide⟩
theorem wrongAt (i : Nat) (h : i < wrongR.length) {B : Nat} {w : World} {g : Nat} (hA : At B w (some ⟨g, 0, none⟩) (rus wrongR)) : At B w (some ⟨g, i * 14, none⟩) (rus [wrongR[i]]) := by
  have q := (hA.dropR i).takeR 1
  rw [Nat.zero_add] at q
  rw [show (wrongR.drop i).take 1 = [wrongR[i]] by rw [List.drop_eq_getElem_cons h]; rfl] at q
  exact q
section
variable (w : World) (hT : Tabs w)
include hT
set_option maxHeartbeats 8000000
set_option maxRecDepth 100000
theorem walkStyleNames : Calls Tryd.prog 9 #[] w fun e w' => e = .returned (.bool true) ∧ Below w.heap.size w w' := by
  have CA := alive_any w hT
  have HT := hid hT
  clear hT
  go_enter Tryd.func9, Tryd.ntmps9
  go_wp2_with fail
  refine CA.mono ?_
  rintro e w1 ⟨rfl, hb1⟩
  have HB1 := hid hb1
  clear hb1 CA
  go_wp2_with (first | (at_make; refine make_zeros rfl _ _ rfl w.heap.size rfl rfl ?_ ?_))
  · exact HB1.out.size
  intro w2 hown2 hgr2
  have hb2 : Below w1.heap.size w1 w2 := (Below.refl _ _).grown hgr2 (Nat.le_refl _) (fun k hk => by cases hk)
  have H2 := hid (And.intro (HB1.out.trans (hb2.mono HB1.out.size)) hown2)
  clear hgr2 hb2 hown2
  generalize w1.heap.size = bl at *
  have O1 : ∀ x, Below w2.heap.size w2 x → Calls Tryd.prog 12 #[.slice (some ⟨bl, 0, none⟩) 256 257] x fun e w' => ∃ g, e = .returned (.tuple #[.slice (some ⟨g, 0, none⟩) 256 256, .int .i64 0]) ∧ w'.ownsRow x.heap.size 3 1 (.slice (some ⟨g, 0, none⟩) 256 256) 256 (ints (ordI (zeros 256))) ∧ Below x.heap.size x w' := fun x hb => by
    have hA := At.of_own (own_below' H2.out.2 hb)
    have hA2 := hA.takeR 256
    rw [show (zeros 257).take 256 = zeros 256 by simp [zeros, List.take_replicate]] at hA2
    have q := Order_ok x.heap.size (some ⟨bl, 0, none⟩) 257 (zeros 256) (zeros_in 256) x (tabs_on HT.out (H2.out.1.trans (hb.mono H2.out.1.size))) hA2 (Nat.le_refl _) zeros_chk
    unfold OrdE at q
    simp only [zeros_len] at q
    exact q
  have O2 : ∀ x, Below w2.heap.size w2 x → Calls Tryd.prog 12 #[.slice (some ⟨bl, 0, none⟩) 257 257] x fun e w' => e = .returned (.tuple #[.slice none 0 0, .int .i64 4]) ∧ Below x.heap.size x w' := fun x hb => by
    have q := Order_bad x.heap.size (some ⟨bl, 0, none⟩) 257 (zeros 257) (zeros_in 257) x (tabs_on HT.out (H2.out.1.trans (hb.mono H2.out.1.size))) (At.of_own (own_below' H2.out.2 hb)) (Nat.le_refl _) (by rw [zeros_len]; omega) (by rw [zeros_chk']; omega)
    rw [zeros_chk'] at q
    simp only [zeros_len] at q
    exact q
  have P1 := hid O1
  have P2 := hid O2
  clear O1 O2
  go_wp2_with fail
  refine (P1.out _ (Below.refl _ _)).mono ?_
  rintro e w3 ⟨g3, rfl, hown3, hb3⟩
  have H3 := hid (And.intro hb3 hown3)
  clear hb3 hown3
  go_wp2_with fail
  refine (P2.out _ H3.out.1).mono ?_
  rintro e w4 ⟨rfl, hb4⟩
  have H4 := hid (And.intro (H3.out.1.trans (hb4.mono H3.out.1.size)) (own_below' H3.out.2 hb4))
  have x255 := (own_below' H3.out.2 hb4).cellAt 255 (by omega)
  rw [show (ints (ordI (zeros 256)))[255]? = some (.int .i64 255) by unfold ints; rw [List.getElem?_map, zeros_last]; rfl] at x255
  clear hb4 P1 P2
  go_wp2_with fail
  clear x255
  refine (Usual_any w4).mono ?_
  rintro e w5 ⟨g5, rfl, hg5, hk5, hb5⟩
  have H5 := hid (And.intro (H4.out.1.trans (hb5.mono H4.out.1.size)) hk5)
  have hg5' : w2.heap.size ≤ g5 := Nat.le_trans H4.out.1.size hg5
  clear hg5 hk5 hb5
  go_wp2_with fail
  refine (rUsual_any w5).mono ?_
  rintro e w6 ⟨g6, rfl, hg6, hk6, hb6⟩
  have H6 := hid (And.intro (H5.out.1.trans (hb6.mono H5.out.1.size)) (And.intro (blk_on' H5.out.2 hb6) hk6))
  clear hg6 hk6 hb6
  go_wp2_with fail
  refine (same_any US _ _ 6 6 w6 (At.rules H6.out.2.1 rfl) (At.rules H6.out.2.2 rfl) (by decide)).mono ?_
  rintro e w7 ⟨rfl, hb7⟩
  have H7 := hid (And.intro (H6.out.1.trans (hb7.mono H6.out.1.size)) (blk_on' H6.out.2.1 hb7))
  clear hb7
  have T7 : Hid (w7.there g5 0 84) := hid fun j hj => by
    rw [Nat.zero_add]
    refine ⟨?_, blk_frozen H7.out.2 j⟩
    rw [blk_cell H7.out.2 j, Array.getElem?_eq_getElem (by exact hj)]
    rfl
  go_wp2_with fail
  go_loopg [9] 6 (fun gh i wr => ∃ k : Nat, i = .int .i64 k ∧ k ≤ 6 ∧ 6 - k ≤ gh ∧ Hid (Below w2.heap.size w2 wr ∧ wr.there g5 0 84))
  case atStart => exact ⟨0, rfl, by omega, by omega, hid ⟨H7.out.1, T7.out⟩⟩
  case round =>
    obtain ⟨k, rfl, hk, hgk, HB⟩ := hrel
    clear H5 H6 H7 T7
    by_cases hlt : k < 6
    · have hli : (k : Int) < 6 := by omega
      have T1 : Hid (wr.there g5 (k * 14) 14) := hid fun j hj => by
        have q := HB.out.2 (k * 14 + j) (by omega)
        rw [Nat.zero_add] at q
        exact q
      go_wp2_with (refine wpList_store_mid (P := Tryd.prog) rfl 46 (.tmp 70) (.tmp 69) rfl g5 (k * 14) #[.int .u8 99, .string { data := #[] }, .int .u8 0, .int .u8 0, .int .u8 0, .int .u8 0, .int .u8 0, .int .u8 0, .int .u8 0, .int .u8 0, .int .u8 0, .int .u8 0, .bool false, .int .i64 0] (by kernel_rfl) (by kernel_rfl) T1.out sz_rule one_99 ?_; have HN := hid (And.intro (below_setCells hg5' (#[.int .u8 99, .string { data := #[] }, .int .u8 0, .int .u8 0, .int .u8 0, .int .u8 0, .int .u8 0, .int .u8 0, .int .u8 0, .int .u8 0, .int .u8 0, .int .u8 0, .bool false, .int .i64 0] : Array Value).toList (k * 14) wr HB.out.1) (World.there_setCells HB.out.2 g5 (k * 14) (#[.int .u8 99, .string { data := #[] }, .int .u8 0, .int .u8 0, .int .u8 0, .int .u8 0, .int .u8 0, .int .u8 0, .int .u8 0, .int .u8 0, .int .u8 0, .int .u8 0, .bool false, .int .i64 0] : Array Value).toList)); clear HB T1; generalize wr.setCells g5 (k * 14) (#[.int .u8 99, .string { data := #[] }, .int .u8 0, .int .u8 0, .int .u8 0, .int .u8 0, .int .u8 0, .int .u8 0, .int .u8 0, .int .u8 0, .int .u8 0, .int .u8 0, .bool false, .int .i64 0] : Array Value).toList = wn at *)
      go_roundg (6 - (k + 1))
      case measure => omega
      case rel => exact ⟨k + 1, by go_num, by omega, by omega, HN⟩
    · have hli : ¬ ((k : Int) < 6) := by omega
      clear hk hgk hlt
      go_wp2_with fail
      refine (Usual_any wr).mono ?_
      rintro e w8 ⟨g10, rfl, hg10, hk8, hb8⟩
      have H8 := hid (And.intro (HB.out.1.trans (hb8.mono HB.out.1.size)) hk8)
      clear hg10 hk8 hb8
      go_wp2_with fail
      refine (rUsual_any w8).mono ?_
      rintro e w9 ⟨g9, rfl, hg9, hk9, hb9⟩
      have H9 := hid (And.intro (H8.out.1.trans (hb9.mono H8.out.1.size)) (And.intro (blk_on' H8.out.2 hb9) hk9))
      clear hg9 hk9 hb9
      go_wp2_with fail
      refine (same_any US _ _ 6 6 w9 (At.rules H9.out.2.1 rfl) (At.rules H9.out.2.2 rfl) (by decide)).mono ?_
      rintro e w10 ⟨rfl, hb10⟩
      have H10 := hid (And.intro (H9.out.1.trans (hb10.mono H9.out.1.size)) (blk_on' H9.out.2.1 hb10))
      clear hb10 H8 H9 HB
      go_wp2_with (first | (at_make; refine make_bytes rfl _ _ rfl w10.heap.size rfl rfl ?_ ?_))
      · exact Nat.le_refl _
      intro w11 hown11 hgr11
      have hb11 : Below w10.heap.size w10 w11 := (Below.refl _ _).grown hgr11 (Nat.le_refl _) (fun k hk => by cases hk)
      have H11 := hid (And.intro (H10.out.1.trans (hb11.mono H10.out.1.size)) (And.intro (blk_on' H10.out.2 hb11) hown11))
      have y11 := H10.out.1.size
      have y10 := H10.out.1.size
      have HZ := hid (lt_of_block H10.out.2)
      clear hgr11 hb11 hown11 H10
      generalize hgb : w10.heap.size = gb at *
      have HGB := hid hgb
      clear hgb
      go_wp2_with fail
      go_loopg [13] 65 (fun gh i wq => ∃ k : Nat, i = .int .i64 k ∧ k ≤ 65 ∧ 65 - k ≤ gh ∧ Hid (Below w2.heap.size w2 wq ∧ wq.heap[g10]? = w11.heap[g10]? ∧ wq.ownsRow gb 5 1 (.slice (some ⟨gb, 0, none⟩) 65 65) 65 (byRow k)))
      case atStart => exact ⟨0, rfl, by omega, by omega, hid ⟨H11.out.1, rfl, H11.out.2.2⟩⟩
      case round =>
        obtain ⟨k, rfl, hk, hgk, HB⟩ := hrel
        by_cases hlt : k < 65
        · have hli : (k : Int) < 65 := by omega
          have hcell := HB.out.2.2.cellAt k (by omega)
          rw [byRow_at k hlt] at hcell
          have hfr := HB.out.2.2.frozenAt k
          have hst := own_store HB.out.2.2 k (.int .u8 97)
          rw [byRow_set k hlt] at hst
          have hbs := HB.out.1.setCell (p := ⟨gb, k, none⟩) y10 (.int .u8 97)
          have hoth : (wr.setCell ⟨gb, k, none⟩ (.int .u8 97)).heap[g10]? = wr.heap[g10]? := heap_setCell_other wr ⟨gb, k, none⟩ g10 (.int .u8 97) (by have := HZ.out; intro e; simp at e; omega)
          have HN := hid (And.intro hbs (And.intro (hoth.trans HB.out.2.1) hst))
          clear HB hst hbs hoth
          go_wp2
          go_roundg (65 - (k + 1))
          case measure => omega
          case rel => exact ⟨k + 1, by go_num, by omega, by omega, HN⟩
        · have hli : ¬ ((k : Int) < 65) := by omega
          obtain rfl : k = 65 := by omega

          clear hk hgk hlt
          have c1 := conv_a HB.out.2.2 64 (by omega)
          have c2 := conv_a (own_below' HB.out.2.2 ((Below.refl _ _).alloc (Nat.le_refl _) (.cells #[.int .u8 0, .string (clsA 64), .int .u8 0, .int .u8 0, .int .u8 0, .int .u8 0, .int .u8 0, .int .u8 0, .int .u8 0, .int .u8 0, .int .u8 0, .int .u8 0, .bool false, .int .i64 0] 46))) 65 (by omega)
          have k0 := alloc_there (alloc_there (alloc_there (alloc_there (alloc_there (alloc_there (heap_alloc_new wr (.cells #[.int .u8 0, .string (clsA 64), .int .u8 0, .int .u8 0, .int .u8 0, .int .u8 0, .int .u8 0, .int .u8 0, .int .u8 0, .int .u8 0, .int .u8 0, .int .u8 0, .bool false, .int .i64 0] 46)) (.cells #[.int .u8 0, .string (clsA 65), .int .u8 0, .int .u8 0, .int .u8 0, .int .u8 0, .int .u8 0, .int .u8 0, .int .u8 0, .int .u8 0, .int .u8 0, .int .u8 0, .bool false, .int .i64 0] 46)) (.cells #[.int .u8 0, .string { data := #[] }, .int .u8 0, .int .u8 8, .int .u8 0, .int .u8 0, .int .u8 0, .int .u8 0, .int .u8 0, .int .u8 0, .int .u8 0, .int .u8 0, .bool false, .int .i64 16384] 46)) (.cells #[.int .u8 0, .string { data := #[] }, .int .u8 0, .int .u8 8, .int .u8 0, .int .u8 0, .int .u8 0, .int .u8 0, .int .u8 0, .int .u8 0, .int .u8 0, .int .u8 0, .bool false, .int .i64 16385] 46)) (.cells #[.int .u8 0, .string { data := #[255] }, .int .u8 0, .int .u8 0, .int .u8 0, .int .u8 0, .int .u8 0, .int .u8 0, .int .u8 0, .int .u8 0, .int .u8 0, .int .u8 0, .bool false, .int .i64 0] 46)) (.cells #[.int .u8 255, .int .u8 0, .int .u8 0, .int .u8 255] 30)) (.cells #[.int .u8 0, .string { data := #[] }, .int .u8 0, .int .u8 8, .int .u8 0, .int .u8 0, .int .u8 0, .int .u8 0, .int .u8 0, .int .u8 0, .int .u8 0, .int .u8 0, .bool false, .int .i64 5, .int .u8 0, .string { data := #[] }, .int .u8 1, .int .u8 7, .int .u8 255, .int .u8 0, .int .u8 0, .int .u8 255, .int .u8 255, .int .u8 0, .int .u8 0, .int .u8 255, .bool false, .int .i64 0] 46)
          have k1 := alloc_there (alloc_there (alloc_there (alloc_there (alloc_there (heap_alloc_new (wr.alloc (.cells #[.int .u8 0, .string (clsA 64), .int .u8 0, .int .u8 0, .int .u8 0, .int .u8 0, .int .u8 0, .int .u8 0, .int .u8 0, .int .u8 0, .int .u8 0, .int .u8 0, .bool false, .int .i64 0] 46)) (.cells #[.int .u8 0, .string (clsA 65), .int .u8 0, .int .u8 0, .int .u8 0, .int .u8 0, .int .u8 0, .int .u8 0, .int .u8 0, .int .u8 0, .int .u8 0, .int .u8 0, .bool false, .int .i64 0] 46)) (.cells #[.int .u8 0, .string { data := #[] }, .int .u8 0, .int .u8 8, .int .u8 0, .int .u8 0, .int .u8 0, .int .u8 0, .int .u8 0, .int .u8 0, .int .u8 0, .int .u8 0, .bool false, .int .i64 16384] 46)) (.cells #[.int .u8 0, .string { data := #[] }, .int .u8 0, .int .u8 8, .int .u8 0, .int .u8 0, .int .u8 0, .int .u8 0, .int .u8 0, .int .u8 0, .int .u8 0, .int .u8 0, .bool false, .int .i64 16385] 46)) (.cells #[.int .u8 0, .string { data := #[255] }, .int .u8 0, .int .u8 0, .int .u8 0, .int .u8 0, .int .u8 0, .int .u8 0, .int .u8 0, .int .u8 0, .int .u8 0, .int .u8 0, .bool false, .int .i64 0] 46)) (.cells #[.int .u8 255, .int .u8 0, .int .u8 0, .int .u8 255] 30)) (.cells #[.int .u8 0, .string { data := #[] }, .int .u8 0, .int .u8 8, .int .u8 0, .int .u8 0, .int .u8 0, .int .u8 0, .int .u8 0, .int .u8 0, .int .u8 0, .int .u8 0, .bool false, .int .i64 5, .int .u8 0, .string { data := #[] }, .int .u8 1, .int .u8 7, .int .u8 255, .int .u8 0, .int .u8 0, .int .u8 255, .int .u8 255, .int .u8 0, .int .u8 0, .int .u8 255, .bool false, .int .i64 0] 46)
          rw [show (wr.alloc (.cells #[.int .u8 0, .string (clsA 64), .int .u8 0, .int .u8 0, .int .u8 0, .int .u8 0, .int .u8 0, .int .u8 0, .int .u8 0, .int .u8 0, .int .u8 0, .int .u8 0, .bool false, .int .i64 0] 46)).heap.size = wr.heap.size + 1 by simp] at k1
          have k2 := alloc_there (alloc_there (alloc_there (alloc_there (heap_alloc_new ((wr.alloc (.cells #[.int .u8 0, .string (clsA 64), .int .u8 0, .int .u8 0, .int .u8 0, .int .u8 0, .int .u8 0, .int .u8 0, .int .u8 0, .int .u8 0, .int .u8 0, .int .u8 0, .bool false, .int .i64 0] 46)).alloc (.cells #[.int .u8 0, .string (clsA 65), .int .u8 0, .int .u8 0, .int .u8 0, .int .u8 0, .int .u8 0, .int .u8 0, .int .u8 0, .int .u8 0, .int .u8 0, .int .u8 0, .bool false, .int .i64 0] 46)) (.cells #[.int .u8 0, .string { data := #[] }, .int .u8 0, .int .u8 8, .int .u8 0, .int .u8 0, .int .u8 0, .int .u8 0, .int .u8 0, .int .u8 0, .int .u8 0, .int .u8 0, .bool false, .int .i64 16384] 46)) (.cells #[.int .u8 0, .string { data := #[] }, .int .u8 0, .int .u8 8, .int .u8 0, .int .u8 0, .int .u8 0, .int .u8 0, .int .u8 0, .int .u8 0, .int .u8 0, .int .u8 0, .bool false, .int .i64 16385] 46)) (.cells #[.int .u8 0, .string { data := #[255] }, .int .u8 0, .int .u8 0, .int .u8 0, .int .u8 0, .int .u8 0, .int .u8 0, .int .u8 0, .int .u8 0, .int .u8 0, .int .u8 0, .bool false, .int .i64 0] 46)) (.cells #[.int .u8 255, .int .u8 0, .int .u8 0, .int .u8 255] 30)) (.cells #[.int .u8 0, .string { data := #[] }, .int .u8 0, .int .u8 8, .int .u8 0, .int .u8 0, .int .u8 0, .int .u8 0, .int .u8 0, .int .u8 0, .int .u8 0, .int .u8 0, .bool false, .int .i64 5, .int .u8 0, .string { data := #[] }, .int .u8 1, .int .u8 7, .int .u8 255, .int .u8 0, .int .u8 0, .int .u8 255, .int .u8 255, .int .u8 0, .int .u8 0, .int .u8 255, .bool false, .int .i64 0] 46)
          rw [show ((wr.alloc (.cells #[.int .u8 0, .string (clsA 64), .int .u8 0, .int .u8 0, .int .u8 0, .int .u8 0, .int .u8 0, .int .u8 0, .int .u8 0, .int .u8 0, .int .u8 0, .int .u8 0, .bool false, .int .i64 0] 46)).alloc (.cells #[.int .u8 0, .string (clsA 65), .int .u8 0, .int .u8 0, .int .u8 0, .int .u8 0, .int .u8 0, .int .u8 0, .int .u8 0, .int .u8 0, .int .u8 0, .int .u8 0, .bool false, .int .i64 0] 46)).heap.size = wr.heap.size + 1 + 1 by simp] at k2
          have k3 := alloc_there (alloc_there (alloc_there (heap_alloc_new (((wr.alloc (.cells #[.int .u8 0, .string (clsA 64), .int .u8 0, .int .u8 0, .int .u8 0, .int .u8 0, .int .u8 0, .int .u8 0, .int .u8 0, .int .u8 0, .int .u8 0, .int .u8 0, .bool false, .int .i64 0] 46)).alloc (.cells #[.int .u8 0, .string (clsA 65), .int .u8 0, .int .u8 0, .int .u8 0, .int .u8 0, .int .u8 0, .int .u8 0, .int .u8 0, .int .u8 0, .int .u8 0, .int .u8 0, .bool false, .int .i64 0] 46)).alloc (.cells #[.int .u8 0, .string { data := #[] }, .int .u8 0, .int .u8 8, .int .u8 0, .int .u8 0, .int .u8 0, .int .u8 0, .int .u8 0, .int .u8 0, .int .u8 0, .int .u8 0, .bool false, .int .i64 16384] 46)) (.cells #[.int .u8 0, .string { data := #[] }, .int .u8 0, .int .u8 8, .int .u8 0, .int .u8 0, .int .u8 0, .int .u8 0, .int .u8 0, .int .u8 0, .int .u8 0, .int .u8 0, .bool false, .int .i64 16385] 46)) (.cells #[.int .u8 0, .string { data := #[255] }, .int .u8 0, .int .u8 0, .int .u8 0, .int .u8 0, .int .u8 0, .int .u8 0, .int .u8 0, .int .u8 0, .int .u8 0, .int .u8 0, .bool false, .int .i64 0] 46)) (.cells #[.int .u8 255, .int .u8 0, .int .u8 0, .int .u8 255] 30)) (.cells #[.int .u8 0, .string { data := #[] }, .int .u8 0, .int .u8 8, .int .u8 0, .int .u8 0, .int .u8 0, .int .u8 0, .int .u8 0, .int .u8 0, .int .u8 0, .int .u8 0, .bool false, .int .i64 5, .int .u8 0, .string { data := #[] }, .int .u8 1, .int .u8 7, .int .u8 255, .int .u8 0, .int .u8 0, .int .u8 255, .int .u8 255, .int .u8 0, .int .u8 0, .int .u8 255, .bool false, .int .i64 0] 46)
          rw [show (((wr.alloc (.cells #[.int .u8 0, .string (clsA 64), .int .u8 0, .int .u8 0, .int .u8 0, .int .u8 0, .int .u8 0, .int .u8 0, .int .u8 0, .int .u8 0, .int .u8 0, .int .u8 0, .bool false, .int .i64 0] 46)).alloc (.cells #[.int .u8 0, .string (clsA 65), .int .u8 0, .int .u8 0, .int .u8 0, .int .u8 0, .int .u8 0, .int .u8 0, .int .u8 0, .int .u8 0, .int .u8 0, .int .u8 0, .bool false, .int .i64 0] 46)).alloc (.cells #[.int .u8 0, .string { data := #[] }, .int .u8 0, .int .u8 8, .int .u8 0, .int .u8 0, .int .u8 0, .int .u8 0, .int .u8 0, .int .u8 0, .int .u8 0, .int .u8 0, .bool false, .int .i64 16384] 46)).heap.size = wr.heap.size + 1 + 1 + 1 by simp] at k3
          have k4 := alloc_there (alloc_there (heap_alloc_new ((((wr.alloc (.cells #[.int .u8 0, .string (clsA 64), .int .u8 0, .int .u8 0, .int .u8 0, .int .u8 0, .int .u8 0, .int .u8 0, .int .u8 0, .int .u8 0, .int .u8 0, .int .u8 0, .bool false, .int .i64 0] 46)).alloc (.cells #[.int .u8 0, .string (clsA 65), .int .u8 0, .int .u8 0, .int .u8 0, .int .u8 0, .int .u8 0, .int .u8 0, .int .u8 0, .int .u8 0, .int .u8 0, .int .u8 0, .bool false, .int .i64 0] 46)).alloc (.cells #[.int .u8 0, .string { data := #[] }, .int .u8 0, .int .u8 8, .int .u8 0, .int .u8 0, .int .u8 0, .int .u8 0, .int .u8 0, .int .u8 0, .int .u8 0, .int .u8 0, .bool false, .int .i64 16384] 46)).alloc (.cells #[.int .u8 0, .string { data := #[] }, .int .u8 0, .int .u8 8, .int .u8 0, .int .u8 0, .int .u8 0, .int .u8 0, .int .u8 0, .int .u8 0, .int .u8 0, .int .u8 0, .bool false, .int .i64 16385] 46)) (.cells #[.int .u8 0, .string { data := #[255] }, .int .u8 0, .int .u8 0, .int .u8 0, .int .u8 0, .int .u8 0, .int .u8 0, .int .u8 0, .int .u8 0, .int .u8 0, .int .u8 0, .bool false, .int .i64 0] 46)) (.cells #[.int .u8 255, .int .u8 0, .int .u8 0, .int .u8 255] 30)) (.cells #[.int .u8 0, .string { data := #[] }, .int .u8 0, .int .u8 8, .int .u8 0, .int .u8 0, .int .u8 0, .int .u8 0, .int .u8 0, .int .u8 0, .int .u8 0, .int .u8 0, .bool false, .int .i64 5, .int .u8 0, .string { data := #[] }, .int .u8 1, .int .u8 7, .int .u8 255, .int .u8 0, .int .u8 0, .int .u8 255, .int .u8 255, .int .u8 0, .int .u8 0, .int .u8 255, .bool false, .int .i64 0] 46)
          rw [show ((((wr.alloc (.cells #[.int .u8 0, .string (clsA 64), .int .u8 0, .int .u8 0, .int .u8 0, .int .u8 0, .int .u8 0, .int .u8 0, .int .u8 0, .int .u8 0, .int .u8 0, .int .u8 0, .bool false, .int .i64 0] 46)).alloc (.cells #[.int .u8 0, .string (clsA 65), .int .u8 0, .int .u8 0, .int .u8 0, .int .u8 0, .int .u8 0, .int .u8 0, .int .u8 0, .int .u8 0, .int .u8 0, .int .u8 0, .bool false, .int .i64 0] 46)).alloc (.cells #[.int .u8 0, .string { data := #[] }, .int .u8 0, .int .u8 8, .int .u8 0, .int .u8 0, .int .u8 0, .int .u8 0, .int .u8 0, .int .u8 0, .int .u8 0, .int .u8 0, .bool false, .int .i64 16384] 46)).alloc (.cells #[.int .u8 0, .string { data := #[] }, .int .u8 0, .int .u8 8, .int .u8 0, .int .u8 0, .int .u8 0, .int .u8 0, .int .u8 0, .int .u8 0, .int .u8 0, .int .u8 0, .bool false, .int .i64 16385] 46)).heap.size = wr.heap.size + 1 + 1 + 1 + 1 by simp] at k4
          have k5 := alloc_there (heap_alloc_new (((((wr.alloc (.cells #[.int .u8 0, .string (clsA 64), .int .u8 0, .int .u8 0, .int .u8 0, .int .u8 0, .int .u8 0, .int .u8 0, .int .u8 0, .int .u8 0, .int .u8 0, .int .u8 0, .bool false, .int .i64 0] 46)).alloc (.cells #[.int .u8 0, .string (clsA 65), .int .u8 0, .int .u8 0, .int .u8 0, .int .u8 0, .int .u8 0, .int .u8 0, .int .u8 0, .int .u8 0, .int .u8 0, .int .u8 0, .bool false, .int .i64 0] 46)).alloc (.cells #[.int .u8 0, .string { data := #[] }, .int .u8 0, .int .u8 8, .int .u8 0, .int .u8 0, .int .u8 0, .int .u8 0, .int .u8 0, .int .u8 0, .int .u8 0, .int .u8 0, .bool false, .int .i64 16384] 46)).alloc (.cells #[.int .u8 0, .string { data := #[] }, .int .u8 0, .int .u8 8, .int .u8 0, .int .u8 0, .int .u8 0, .int .u8 0, .int .u8 0, .int .u8 0, .int .u8 0, .int .u8 0, .bool false, .int .i64 16385] 46)).alloc (.cells #[.int .u8 0, .string { data := #[255] }, .int .u8 0, .int .u8 0, .int .u8 0, .int .u8 0, .int .u8 0, .int .u8 0, .int .u8 0, .int .u8 0, .int .u8 0, .int .u8 0, .bool false, .int .i64 0] 46)) (.cells #[.int .u8 255, .int .u8 0, .int .u8 0, .int .u8 255] 30)) (.cells #[.int .u8 0, .string { data := #[] }, .int .u8 0, .int .u8 8, .int .u8 0, .int .u8 0, .int .u8 0, .int .u8 0, .int .u8 0, .int .u8 0, .int .u8 0, .int .u8 0, .bool false, .int .i64 5, .int .u8 0, .string { data := #[] }, .int .u8 1, .int .u8 7, .int .u8 255, .int .u8 0, .int .u8 0, .int .u8 255, .int .u8 255, .int .u8 0, .int .u8 0, .int .u8 255, .bool false, .int .i64 0] 46)
          rw [show (((((wr.alloc (.cells #[.int .u8 0, .string (clsA 64), .int .u8 0, .int .u8 0, .int .u8 0, .int .u8 0, .int .u8 0, .int .u8 0, .int .u8 0, .int .u8 0, .int .u8 0, .int .u8 0, .bool false, .int .i64 0] 46)).alloc (.cells #[.int .u8 0, .string (clsA 65), .int .u8 0, .int .u8 0, .int .u8 0, .int .u8 0, .int .u8 0, .int .u8 0, .int .u8 0, .int .u8 0, .int .u8 0, .int .u8 0, .bool false, .int .i64 0] 46)).alloc (.cells #[.int .u8 0, .string { data := #[] }, .int .u8 0, .int .u8 8, .int .u8 0, .int .u8 0, .int .u8 0, .int .u8 0, .int .u8 0, .int .u8 0, .int .u8 0, .int .u8 0, .bool false, .int .i64 16384] 46)).alloc (.cells #[.int .u8 0, .string { data := #[] }, .int .u8 0, .int .u8 8, .int .u8 0, .int .u8 0, .int .u8 0, .int .u8 0, .int .u8 0, .int .u8 0, .int .u8 0, .int .u8 0, .bool false, .int .i64 16385] 46)).alloc (.cells #[.int .u8 0, .string { data := #[255] }, .int .u8 0, .int .u8 0, .int .u8 0, .int .u8 0, .int .u8 0, .int .u8 0, .int .u8 0, .int .u8 0, .int .u8 0, .int .u8 0, .bool false, .int .i64 0] 46)).heap.size = wr.heap.size + 1 + 1 + 1 + 1 + 1 by simp] at k5
          have k6 := heap_alloc_new ((((((wr.alloc (.cells #[.int .u8 0, .string (clsA 64), .int .u8 0, .int .u8 0, .int .u8 0, .int .u8 0, .int .u8 0, .int .u8 0, .int .u8 0, .int .u8 0, .int .u8 0, .int .u8 0, .bool false, .int .i64 0] 46)).alloc (.cells #[.int .u8 0, .string (clsA 65), .int .u8 0, .int .u8 0, .int .u8 0, .int .u8 0, .int .u8 0, .int .u8 0, .int .u8 0, .int .u8 0, .int .u8 0, .int .u8 0, .bool false, .int .i64 0] 46)).alloc (.cells #[.int .u8 0, .string { data := #[] }, .int .u8 0, .int .u8 8, .int .u8 0, .int .u8 0, .int .u8 0, .int .u8 0, .int .u8 0, .int .u8 0, .int .u8 0, .int .u8 0, .bool false, .int .i64 16384] 46)).alloc (.cells #[.int .u8 0, .string { data := #[] }, .int .u8 0, .int .u8 8, .int .u8 0, .int .u8 0, .int .u8 0, .int .u8 0, .int .u8 0, .int .u8 0, .int .u8 0, .int .u8 0, .bool false, .int .i64 16385] 46)).alloc (.cells #[.int .u8 0, .string { data := #[255] }, .int .u8 0, .int .u8 0, .int .u8 0, .int .u8 0, .int .u8 0, .int .u8 0, .int .u8 0, .int .u8 0, .int .u8 0, .int .u8 0, .bool false, .int .i64 0] 46)).alloc (.cells #[.int .u8 255, .int .u8 0, .int .u8 0, .int .u8 255] 30)) (.cells #[.int .u8 0, .string { data := #[] }, .int .u8 0, .int .u8 8, .int .u8 0, .int .u8 0, .int .u8 0, .int .u8 0, .int .u8 0, .int .u8 0, .int .u8 0, .int .u8 0, .bool false, .int .i64 5, .int .u8 0, .string { data := #[] }, .int .u8 1, .int .u8 7, .int .u8 255, .int .u8 0, .int .u8 0, .int .u8 255, .int .u8 255, .int .u8 0, .int .u8 0, .int .u8 255, .bool false, .int .i64 0] 46)
          rw [show ((((((wr.alloc (.cells #[.int .u8 0, .string (clsA 64), .int .u8 0, .int .u8 0, .int .u8 0, .int .u8 0, .int .u8 0, .int .u8 0, .int .u8 0, .int .u8 0, .int .u8 0, .int .u8 0, .bool false, .int .i64 0] 46)).alloc (.cells #[.int .u8 0, .string (clsA 65), .int .u8 0, .int .u8 0, .int .u8 0, .int .u8 0, .int .u8 0, .int .u8 0, .int .u8 0, .int .u8 0, .int .u8 0, .int .u8 0, .bool false, .int .i64 0] 46)).alloc (.cells #[.int .u8 0, .string { data := #[] }, .int .u8 0, .int .u8 8, .int .u8 0, .int .u8 0, .int .u8 0, .int .u8 0, .int .u8 0, .int .u8 0, .int .u8 0, .int .u8 0, .bool false, .int .i64 16384] 46)).alloc (.cells #[.int .u8 0, .string { data := #[] }, .int .u8 0, .int .u8 8, .int .u8 0, .int .u8 0, .int .u8 0, .int .u8 0, .int .u8 0, .int .u8 0, .int .u8 0, .int .u8 0, .bool false, .int .i64 16385] 46)).alloc (.cells #[.int .u8 0, .string { data := #[255] }, .int .u8 0, .int .u8 0, .int .u8 0, .int .u8 0, .int .u8 0, .int .u8 0, .int .u8 0, .int .u8 0, .int .u8 0, .int .u8 0, .bool false, .int .i64 0] 46)).alloc (.cells #[.int .u8 255, .int .u8 0, .int .u8 0, .int .u8 255] 30)).heap.size = wr.heap.size + 1 + 1 + 1 + 1 + 1 + 1 by simp] at k6
          have BV : Below wr.heap.size wr (((((((wr.alloc (.cells #[.int .u8 0, .string (clsA 64), .int .u8 0, .int .u8 0, .int .u8 0, .int .u8 0, .int .u8 0, .int .u8 0, .int .u8 0, .int .u8 0, .int .u8 0, .int .u8 0, .bool false, .int .i64 0] 46)).alloc (.cells #[.int .u8 0, .string (clsA 65), .int .u8 0, .int .u8 0, .int .u8 0, .int .u8 0, .int .u8 0, .int .u8 0, .int .u8 0, .int .u8 0, .int .u8 0, .int .u8 0, .bool false, .int .i64 0] 46)).alloc (.cells #[.int .u8 0, .string { data := #[] }, .int .u8 0, .int .u8 8, .int .u8 0, .int .u8 0, .int .u8 0, .int .u8 0, .int .u8 0, .int .u8 0, .int .u8 0, .int .u8 0, .bool false, .int .i64 16384] 46)).alloc (.cells #[.int .u8 0, .string { data := #[] }, .int .u8 0, .int .u8 8, .int .u8 0, .int .u8 0, .int .u8 0, .int .u8 0, .int .u8 0, .int .u8 0, .int .u8 0, .int .u8 0, .bool false, .int .i64 16385] 46)).alloc (.cells #[.int .u8 0, .string { data := #[255] }, .int .u8 0, .int .u8 0, .int .u8 0, .int .u8 0, .int .u8 0, .int .u8 0, .int .u8 0, .int .u8 0, .int .u8 0, .int .u8 0, .bool false, .int .i64 0] 46)).alloc (.cells #[.int .u8 255, .int .u8 0, .int .u8 0, .int .u8 255] 30)).alloc (.cells #[.int .u8 0, .string { data := #[] }, .int .u8 0, .int .u8 8, .int .u8 0, .int .u8 0, .int .u8 0, .int .u8 0, .int .u8 0, .int .u8 0, .int .u8 0, .int .u8 0, .bool false, .int .i64 5, .int .u8 0, .string { data := #[] }, .int .u8 1, .int .u8 7, .int .u8 255, .int .u8 0, .int .u8 0, .int .u8 255, .int .u8 255, .int .u8 0, .int .u8 0, .int .u8 255, .bool false, .int .i64 0] 46)) := (by repeat (first | exact Below.refl _ _ | with_reducible refine Below.alloc ?_ (by first | (simp; done) | (simp; omega) | omega) _ | with_reducible refine Below.setCell ?_ (by first | (simp; done) | (simp; omega) | omega) _ | with_reducible refine Below.drew ?_ | with_reducible refine Below.trans ?_ (Below.mono (by assumption) (by first | (simp; done) | (simp; omega) | omega))))
          have HV := hid (And.intro (HB.out.1.trans (BV.mono HB.out.1.size)) (And.intro (blk_on' (HB.out.2.1.trans H11.out.2.1) BV) (And.intro k0 (And.intro k1 (And.intro k2 (And.intro k3 (And.intro k4 (And.intro k5 k6))))))))
          have yV := BV.size
          clear k0 k1 k2 k3 k4 k5 k6 BV HB H11 HZ HGB
          go_wp2_with fail
          generalize (((((((wr.alloc (.cells #[.int .u8 0, .string (clsA 64), .int .u8 0, .int .u8 0, .int .u8 0, .int .u8 0, .int .u8 0, .int .u8 0, .int .u8 0, .int .u8 0, .int .u8 0, .int .u8 0, .bool false, .int .i64 0] 46)).alloc (.cells #[.int .u8 0, .string (clsA 65), .int .u8 0, .int .u8 0, .int .u8 0, .int .u8 0, .int .u8 0, .int .u8 0, .int .u8 0, .int .u8 0, .int .u8 0, .int .u8 0, .bool false, .int .i64 0] 46)).alloc (.cells #[.int .u8 0, .string { data := #[] }, .int .u8 0, .int .u8 8, .int .u8 0, .int .u8 0, .int .u8 0, .int .u8 0, .int .u8 0, .int .u8 0, .int .u8 0, .int .u8 0, .bool false, .int .i64 16384] 46)).alloc (.cells #[.int .u8 0, .string { data := #[] }, .int .u8 0, .int .u8 8, .int .u8 0, .int .u8 0, .int .u8 0, .int .u8 0, .int .u8 0, .int .u8 0, .int .u8 0, .int .u8 0, .bool false, .int .i64 16385] 46)).alloc (.cells #[.int .u8 0, .string { data := #[255] }, .int .u8 0, .int .u8 0, .int .u8 0, .int .u8 0, .int .u8 0, .int .u8 0, .int .u8 0, .int .u8 0, .int .u8 0, .int .u8 0, .bool false, .int .i64 0] 46)).alloc (.cells #[.int .u8 255, .int .u8 0, .int .u8 0, .int .u8 255] 30)).alloc (.cells #[.int .u8 0, .string { data := #[] }, .int .u8 0, .int .u8 8, .int .u8 0, .int .u8 0, .int .u8 0, .int .u8 0, .int .u8 0, .int .u8 0, .int .u8 0, .int .u8 0, .bool false, .int .i64 5, .int .u8 0, .string { data := #[] }, .int .u8 1, .int .u8 7, .int .u8 255, .int .u8 0, .int .u8 0, .int .u8 255, .int .u8 255, .int .u8 0, .int .u8 0, .int .u8 255, .bool false, .int .i64 0] 46)) = V at *
          clear c1 c2 y10 y11 yV
          generalize wr.heap.size + 1 + 1 + 1 + 1 + 1 + 1 = a6 at *
          generalize wr.heap.size + 1 + 1 + 1 + 1 + 1 = a5 at *
          generalize wr.heap.size + 1 + 1 + 1 + 1 = a4 at *
          generalize wr.heap.size + 1 + 1 + 1 = a3 at *
          generalize wr.heap.size + 1 + 1 = a2 at *
          generalize wr.heap.size + 1 = a1 at *
          generalize wr.heap.size = a0 at *
          have hTV := tabs_on HT.out (H2.out.1.trans (HV.out.1.mono H2.out.1.size))
          have HTV := hid hTV
          have KL : Hid (∀ x, Below V.heap.size V x → Calls Tryd.prog 13 #[.slice (some ⟨a6, 0, none⟩) 2 2, .int .u8 1, .string { data := #[] }, .int .u8 1] x fun e w' => e = .returned (.tuple #[.agg #[.int .u8 15, .int .u8 255, .int .u8 0, .int .u8 0, .int .u8 255, .int .u8 255, .int .u8 0, .int .u8 0, .int .u8 255, .bool false, .int .i64 5], .int .i64 0]) ∧ Below x.heap.size x w') := hid fun x hb => by
            have q := Look_ok V.heap.size _ 2 strongR strong_in x (tabs_on HTV.out hb) ((At.rules HV.out.2.2.2.2.2.2.2.2 rfl).below hb) hb.size 1 1 (by omega) { data := #[] } (by decide) strong_chk
            rw [show ({ data := #[] } : ByteArray).data.toList = [] from rfl, strong_look] at q
            exact q
          clear hTV
          refine (KL.out _ (Below.refl _ _)).mono ?_
          rintro e w12 ⟨rfl, hb12⟩
          have kred := blk_on' HV.out.2.2.2.2.2.2.2.1 hb12
          have r0 : w12.cell? ⟨a5, 0, none⟩ = some (.int .u8 255) := by rw [blk_cell kred 0]; rfl
          have r1 : w12.cell? ⟨a5, 1, none⟩ = some (.int .u8 0) := by rw [blk_cell kred 1]; rfl
          have r2 : w12.cell? ⟨a5, 2, none⟩ = some (.int .u8 0) := by rw [blk_cell kred 2]; rfl
          have r3 : w12.cell? ⟨a5, 3, none⟩ = some (.int .u8 255) := by rw [blk_cell kred 3]; rfl
          have yred := lt_of_block kred
          have EU : lkEq 15 255 0 0 255 255 0 0 255 5 15 255 0 0 255 255 0 0 255 5 false false = true := by kernel_rfl
          have B13 : Below w12.heap.size w12 ((w12.alloc (.cells #[.int .u8 15, .int .u8 255, .int .u8 0, .int .u8 0, .int .u8 255, .int .u8 255, .int .u8 0, .int .u8 0, .int .u8 255, .bool false, .int .i64 5] 32)).alloc (.cells #[.int .u8 0, .string { data := #[97, 32, 98] }, .int .u8 0, .int .u8 0, .int .u8 0, .int .u8 0, .int .u8 0, .int .u8 0, .int .u8 0, .int .u8 0, .int .u8 0, .int .u8 0, .bool false, .int .i64 0, .int .u8 0, .string { data := #[32] }, .int .u8 0, .int .u8 0, .int .u8 0, .int .u8 0, .int .u8 0, .int .u8 0, .int .u8 0, .int .u8 0, .int .u8 0, .int .u8 0, .bool false, .int .i64 0, .int .u8 0, .string { data := #[] }, .int .u8 0, .int .u8 1, .int .u8 0, .int .u8 0, .int .u8 0, .int .u8 0, .int .u8 0, .int .u8 0, .int .u8 0, .int .u8 0, .bool false, .int .i64 1, .int .u8 0, .string { data := #[] }, .int .u8 0, .int .u8 8, .int .u8 0, .int .u8 0, .int .u8 0, .int .u8 0, .int .u8 255, .int .u8 0, .int .u8 0, .int .u8 255, .bool false, .int .i64 0, .int .u8 0, .string { data := #[] }, .int .u8 0, .int .u8 8, .int .u8 0, .int .u8 0, .int .u8 0, .int .u8 0, .int .u8 0, .int .u8 0, .int .u8 0, .int .u8 0, .bool true, .int .i64 0, .int .u8 0, .string { data := #[] }, .int .u8 0, .int .u8 14, .int .u8 255, .int .u8 0, .int .u8 0, .int .u8 255, .int .u8 0, .int .u8 0, .int .u8 0, .int .u8 0, .bool false, .int .i64 0] 46)) := (by repeat (first | exact Below.refl _ _ | with_reducible refine Below.alloc ?_ (by first | (simp; done) | (simp; omega) | omega) _ | with_reducible refine Below.setCell ?_ (by first | (simp; done) | (simp; omega) | omega) _ | with_reducible refine Below.drew ?_ | with_reducible refine Below.trans ?_ (Below.mono (by assumption) (by first | (simp; done) | (simp; omega) | omega))))
          have k13 := heap_alloc_new (w12.alloc (.cells #[.int .u8 15, .int .u8 255, .int .u8 0, .int .u8 0, .int .u8 255, .int .u8 255, .int .u8 0, .int .u8 0, .int .u8 255, .bool false, .int .i64 5] 32)) (.cells #[.int .u8 0, .string { data := #[97, 32, 98] }, .int .u8 0, .int .u8 0, .int .u8 0, .int .u8 0, .int .u8 0, .int .u8 0, .int .u8 0, .int .u8 0, .int .u8 0, .int .u8 0, .bool false, .int .i64 0, .int .u8 0, .string { data := #[32] }, .int .u8 0, .int .u8 0, .int .u8 0, .int .u8 0, .int .u8 0, .int .u8 0, .int .u8 0, .int .u8 0, .int .u8 0, .int .u8 0, .bool false, .int .i64 0, .int .u8 0, .string { data := #[] }, .int .u8 0, .int .u8 1, .int .u8 0, .int .u8 0, .int .u8 0, .int .u8 0, .int .u8 0, .int .u8 0, .int .u8 0, .int .u8 0, .bool false, .int .i64 1, .int .u8 0, .string { data := #[] }, .int .u8 0, .int .u8 8, .int .u8 0, .int .u8 0, .int .u8 0, .int .u8 0, .int .u8 255, .int .u8 0, .int .u8 0, .int .u8 255, .bool false, .int .i64 0, .int .u8 0, .string { data := #[] }, .int .u8 0, .int .u8 8, .int .u8 0, .int .u8 0, .int .u8 0, .int .u8 0, .int .u8 0, .int .u8 0, .int .u8 0, .int .u8 0, .bool true, .int .i64 0, .int .u8 0, .string { data := #[] }, .int .u8 0, .int .u8 14, .int .u8 255, .int .u8 0, .int .u8 0, .int .u8 255, .int .u8 0, .int .u8 0, .int .u8 0, .int .u8 0, .bool false, .int .i64 0] 46)
          rw [show (w12.alloc (.cells #[.int .u8 15, .int .u8 255, .int .u8 0, .int .u8 0, .int .u8 255, .int .u8 255, .int .u8 0, .int .u8 0, .int .u8 255, .bool false, .int .i64 5] 32)).heap.size = w12.heap.size + 1 by simp] at k13
          have HX := hid (And.intro (hb12.trans (B13.mono hb12.size)) k13)
          clear kred KL hb12 B13 k13
          go_wp2_with fail
          generalize ((w12.alloc (.cells #[.int .u8 15, .int .u8 255, .int .u8 0, .int .u8 0, .int .u8 255, .int .u8 255, .int .u8 0, .int .u8 0, .int .u8 255, .bool false, .int .i64 5] 32)).alloc (.cells #[.int .u8 0, .string { data := #[97, 32, 98] }, .int .u8 0, .int .u8 0, .int .u8 0, .int .u8 0, .int .u8 0, .int .u8 0, .int .u8 0, .int .u8 0, .int .u8 0, .int .u8 0, .bool false, .int .i64 0, .int .u8 0, .string { data := #[32] }, .int .u8 0, .int .u8 0, .int .u8 0, .int .u8 0, .int .u8 0, .int .u8 0, .int .u8 0, .int .u8 0, .int .u8 0, .int .u8 0, .bool false, .int .i64 0, .int .u8 0, .string { data := #[] }, .int .u8 0, .int .u8 1, .int .u8 0, .int .u8 0, .int .u8 0, .int .u8 0, .int .u8 0, .int .u8 0, .int .u8 0, .int .u8 0, .bool false, .int .i64 1, .int .u8 0, .string { data := #[] }, .int .u8 0, .int .u8 8, .int .u8 0, .int .u8 0, .int .u8 0, .int .u8 0, .int .u8 255, .int .u8 0, .int .u8 0, .int .u8 255, .bool false, .int .i64 0, .int .u8 0, .string { data := #[] }, .int .u8 0, .int .u8 8, .int .u8 0, .int .u8 0, .int .u8 0, .int .u8 0, .int .u8 0, .int .u8 0, .int .u8 0, .int .u8 0, .bool true, .int .i64 0, .int .u8 0, .string { data := #[] }, .int .u8 0, .int .u8 14, .int .u8 255, .int .u8 0, .int .u8 0, .int .u8 255, .int .u8 0, .int .u8 0, .int .u8 0, .int .u8 0, .bool false, .int .i64 0] 46)) = w13 at *
          generalize w12.heap.size + 1 = gW at *
          clear r0 r1 r2 r3 yred EU
          clear HTV
          have HT13 := hid (tabs_on HT.out (H2.out.1.trans ((HV.out.1.trans (HX.out.1.mono HV.out.1.size)).mono H2.out.1.size)))
          have HA := hid (At.rules (L := wrongR) HX.out.2 rfl)
          have CW0 : Hid (∀ x, Below w13.heap.size w13 x → Calls Tryd.prog 20 #[.slice (some ⟨gW, 0, none⟩) 1 6] x fun e w' => e = .returned (.int .i64 50) ∧ Below x.heap.size x w') := hid fun x hb => by
            have q := Check_any w13.heap.size _ 6 [wrongR[0]] (fun r hr => by rw [List.mem_singleton] at hr; rw [hr]; exact wrong_in _ (List.getElem_mem _)) x (tabs_on HT13.out hb) ((wrongAt 0 (by decide) HA.out).below hb) hb.size (by decide)
            rw [wrong_chk _ (List.getElem_mem _)] at q
            exact q
          have CW1 : Hid (∀ x, Below w13.heap.size w13 x → Calls Tryd.prog 20 #[.slice (some ⟨gW, 14, none⟩) 1 5] x fun e w' => e = .returned (.int .i64 50) ∧ Below x.heap.size x w') := hid fun x hb => by
            have q := Check_any w13.heap.size _ 5 [wrongR[1]] (fun r hr => by rw [List.mem_singleton] at hr; rw [hr]; exact wrong_in _ (List.getElem_mem _)) x (tabs_on HT13.out hb) ((wrongAt 1 (by decide) HA.out).below hb) hb.size (by decide)
            rw [wrong_chk _ (List.getElem_mem _)] at q
            exact q
          have CW2 : Hid (∀ x, Below w13.heap.size w13 x → Calls Tryd.prog 20 #[.slice (some ⟨gW, 28, none⟩) 1 4] x fun e w' => e = .returned (.int .i64 50) ∧ Below x.heap.size x w') := hid fun x hb => by
            have q := Check_any w13.heap.size _ 4 [wrongR[2]] (fun r hr => by rw [List.mem_singleton] at hr; rw [hr]; exact wrong_in _ (List.getElem_mem _)) x (tabs_on HT13.out hb) ((wrongAt 2 (by decide) HA.out).below hb) hb.size (by decide)
            rw [wrong_chk _ (List.getElem_mem _)] at q
            exact q
          have CW3 : Hid (∀ x, Below w13.heap.size w13 x → Calls Tryd.prog 20 #[.slice (some ⟨gW, 42, none⟩) 1 3] x fun e w' => e = .returned (.int .i64 50) ∧ Below x.heap.size x w') := hid fun x hb => by
            have q := Check_any w13.heap.size _ 3 [wrongR[3]] (fun r hr => by rw [List.mem_singleton] at hr; rw [hr]; exact wrong_in _ (List.getElem_mem _)) x (tabs_on HT13.out hb) ((wrongAt 3 (by decide) HA.out).below hb) hb.size (by decide)
            rw [wrong_chk _ (List.getElem_mem _)] at q
            exact q
          have CW4 : Hid (∀ x, Below w13.heap.size w13 x → Calls Tryd.prog 20 #[.slice (some ⟨gW, 56, none⟩) 1 2] x fun e w' => e = .returned (.int .i64 50) ∧ Below x.heap.size x w') := hid fun x hb => by
            have q := Check_any w13.heap.size _ 2 [wrongR[4]] (fun r hr => by rw [List.mem_singleton] at hr; rw [hr]; exact wrong_in _ (List.getElem_mem _)) x (tabs_on HT13.out hb) ((wrongAt 4 (by decide) HA.out).below hb) hb.size (by decide)
            rw [wrong_chk _ (List.getElem_mem _)] at q
            exact q
          have CW5 : Hid (∀ x, Below w13.heap.size w13 x → Calls Tryd.prog 20 #[.slice (some ⟨gW, 70, none⟩) 1 1] x fun e w' => e = .returned (.int .i64 50) ∧ Below x.heap.size x w') := hid fun x hb => by
            have q := Check_any w13.heap.size _ 1 [wrongR[5]] (fun r hr => by rw [List.mem_singleton] at hr; rw [hr]; exact wrong_in _ (List.getElem_mem _)) x (tabs_on HT13.out hb) ((wrongAt 5 (by decide) HA.out).below hb) hb.size (by decide)
            rw [wrong_chk _ (List.getElem_mem _)] at q
            exact q
          have K14 : Hid (∀ x, Below w13.heap.size w13 x → Calls Tryd.prog 20 #[.slice (some ⟨a0, 0, none⟩) 1 1] x fun e w' => e = .returned (.int .i64 0) ∧ Below x.heap.size x w') := hid fun x hb => by
            have q := Check_any w13.heap.size _ 1 [rAt] (fun r hr => by rw [List.mem_singleton] at hr; rw [hr]; exact at_in) x (tabs_on HT13.out hb) (((At.rules (L := [rAt]) (blk_on' HV.out.2.2.1 HX.out.1) rfl)).below hb) hb.size (by decide)
            rw [at_chk] at q
            exact q
          have K15 : Hid (∀ x, Below w13.heap.size w13 x → Calls Tryd.prog 20 #[.slice (some ⟨a1, 0, none⟩) 1 1] x fun e w' => e = .returned (.int .i64 50) ∧ Below x.heap.size x w') := hid fun x hb => by
            have q := Check_any w13.heap.size _ 1 [rBeyond] (fun r hr => by rw [List.mem_singleton] at hr; rw [hr]; exact beyond_in) x (tabs_on HT13.out hb) (((At.rules (L := [rBeyond]) (blk_on' HV.out.2.2.2.1 HX.out.1) rfl)).below hb) hb.size (by decide)
            rw [beyond_chk] at q
            exact q
          have K16 : Hid (∀ x, Below w13.heap.size w13 x → Calls Tryd.prog 20 #[.slice (some ⟨a2, 0, none⟩) 1 1] x fun e w' => e = .returned (.int .i64 0) ∧ Below x.heap.size x w') := hid fun x hb => by
            have q := Check_any w13.heap.size _ 1 [rPad 16384] (fun r hr => by rw [List.mem_singleton] at hr; rw [hr]; exact wide_in) x (tabs_on HT13.out hb) (((At.rules (L := [rPad 16384]) (blk_on' HV.out.2.2.2.2.1 HX.out.1) rfl)).below hb) hb.size (by decide)
            rw [wide_chk] at q
            exact q
          have K17 : Hid (∀ x, Below w13.heap.size w13 x → Calls Tryd.prog 20 #[.slice (some ⟨a3, 0, none⟩) 1 1] x fun e w' => e = .returned (.int .i64 50) ∧ Below x.heap.size x w') := hid fun x hb => by
            have q := Check_any w13.heap.size _ 1 [rPad 16385] (fun r hr => by rw [List.mem_singleton] at hr; rw [hr]; exact wider_in) x (tabs_on HT13.out hb) (((At.rules (L := [rPad 16385]) (blk_on' HV.out.2.2.2.2.2.1 HX.out.1) rfl)).below hb) hb.size (by decide)
            rw [wider_chk] at q
            exact q
          have K18 : Hid (∀ x, Below w13.heap.size w13 x → Calls Tryd.prog 20 #[.slice (some ⟨a4, 0, none⟩) 1 1] x fun e w' => e = .returned (.int .i64 50) ∧ Below x.heap.size x w') := hid fun x hb => by
            have q := Check_any w13.heap.size _ 1 [rOdd] (fun r hr => by rw [List.mem_singleton] at hr; rw [hr]; exact odd_in) x (tabs_on HT13.out hb) (((At.rules (L := [rOdd]) (blk_on' HV.out.2.2.2.2.2.2.1 HX.out.1) rfl)).below hb) hb.size (by decide)
            rw [odd_chk] at q
            exact q
          have K10 : Hid (∀ x, Below w13.heap.size w13 x → Calls Tryd.prog 20 #[.slice (some ⟨g10, 0, none⟩) 6 6] x fun e w' => e = .returned (.int .i64 0) ∧ Below x.heap.size x w') := hid fun x hb => by
            have q := Check_any w13.heap.size _ 6 US US_in x (tabs_on HT13.out hb) (((At.rules (L := US) (blk_on' HV.out.2.1 HX.out.1) rfl)).below hb) hb.size (by decide)
            rw [US_chk] at q
            exact q
          have HW0 := hid (Below.refl w13.heap.size w13)
          have HE := hid (H2.out.1.trans ((HV.out.1.trans (HX.out.1.mono HV.out.1.size)).mono H2.out.1.size))
          clear H2 HV HX HT13 HA HT
          refine wp_loop_rounds 7 ?_
          rw [rounds_succ]
          go_wp2_with fail
          refine (CW0.out _ HW0.out).mono ?_
          rintro e v1 ⟨rfl, hb⟩
          have HW1 := hid (HW0.out.trans (hb.mono HW0.out.size))
          clear hb HW0 CW0
          go_wp2_with fail
          rw [rounds_succ]
          go_wp2_with fail
          refine (CW1.out _ HW1.out).mono ?_
          rintro e v2 ⟨rfl, hb⟩
          have HW2 := hid (HW1.out.trans (hb.mono HW1.out.size))
          clear hb HW1 CW1
          go_wp2_with fail
          rw [rounds_succ]
          go_wp2_with fail
          refine (CW2.out _ HW2.out).mono ?_
          rintro e v3 ⟨rfl, hb⟩
          have HW3 := hid (HW2.out.trans (hb.mono HW2.out.size))
          clear hb HW2 CW2
          go_wp2_with fail
          rw [rounds_succ]
          go_wp2_with fail
          refine (CW3.out _ HW3.out).mono ?_
          rintro e v4 ⟨rfl, hb⟩
          have HW4 := hid (HW3.out.trans (hb.mono HW3.out.size))
          clear hb HW3 CW3
          go_wp2_with fail
          rw [rounds_succ]
          go_wp2_with fail
          refine (CW4.out _ HW4.out).mono ?_
          rintro e v5 ⟨rfl, hb⟩
          have HW5 := hid (HW4.out.trans (hb.mono HW4.out.size))
          clear hb HW4 CW4
          go_wp2_with fail
          rw [rounds_succ]
          go_wp2_with fail
          refine (CW5.out _ HW5.out).mono ?_
          rintro e v6 ⟨rfl, hb⟩
          have HW6 := hid (HW5.out.trans (hb.mono HW5.out.size))
          clear hb HW5 CW5
          go_wp2_with fail
          rw [rounds_succ]
          go_wp2_with fail
          refine (K14.out _ HW6.out).mono ?_
          rintro e v7 ⟨rfl, hb⟩
          have HW7 := hid (HW6.out.trans (hb.mono HW6.out.size))
          clear hb HW6 K14
          go_wp2_with fail
          refine (K15.out _ HW7.out).mono ?_
          rintro e v8 ⟨rfl, hb⟩
          have HW8 := hid (HW7.out.trans (hb.mono HW7.out.size))
          clear hb HW7 K15
          go_wp2_with fail
          refine (K16.out _ HW8.out).mono ?_
          rintro e v9 ⟨rfl, hb⟩
          have HW9 := hid (HW8.out.trans (hb.mono HW8.out.size))
          clear hb HW8 K16
          go_wp2_with fail
          refine (K17.out _ HW9.out).mono ?_
          rintro e v10 ⟨rfl, hb⟩
          have HW10 := hid (HW9.out.trans (hb.mono HW9.out.size))
          clear hb HW9 K17
          go_wp2_with fail
          refine (K18.out _ HW10.out).mono ?_
          rintro e v11 ⟨rfl, hb⟩
          have HW11 := hid (HW10.out.trans (hb.mono HW10.out.size))
          clear hb HW10 K18
          go_wp2_with fail
          refine (K10.out _ HW11.out).mono ?_
          rintro e v12 ⟨rfl, hb⟩
          have HW12 := hid (HW11.out.trans (hb.mono HW11.out.size))
          clear hb HW11 K10
          go_wp2_with fail
          go_ret
          exact ⟨rfl, HE.out.trans (HW12.out.mono HE.out.size)⟩
end
end Go.Proofs.YtoiondgcjbdonaaDoor
