/- Layer 5: how strong a rule is, and the sort's comparison. (Printed by gen_j.py.) -/
import Derived.Test.YtoiondgcjbdonaaDoorStI
import Derived.Test.YtoiondgcjbdonaaDoorStC
namespace Go.Proofs.YtoiondgcjbdonaaDoor
set_option linter.unusedVariables false
set_option linter.unusedSimpArgs false
set_option maxRecDepth 100000
open Go.RowKit Go.Shelf Go.Lib Go.Sort

theorem bytes_nil {s : ByteArray} (h : s.size = 0) : s.toList = [] := by
  have e : s = ByteArray.empty := ByteArray.ext (Array.size_eq_zero_iff.1 h)
  rw [e]; simp
theorem bytes_some {s : ByteArray} (h : ¬ s.size = 0) : s.toList.isEmpty = false := by
  rw [List.isEmpty_eq_false_iff]
  intro h'
  apply h
  rw [ByteArray.toList_eq] at h'
  have := congrArg List.length h'
  simpa using this
set_option maxHeartbeats 1000000 in
set_option maxRecDepth 100000 in
theorem weight_any (r : Ru) (hst : r.st < 256) (w : World) : Calls Tryd.prog 34 #[.agg #[.int .u8 (r.kind : Int), .string r.cls, .int .u8 (r.st : Int), .int .u8 (r.look.has : Int), .int .u8 (r.look.col.r : Int), .int .u8 (r.look.col.g : Int), .int .u8 (r.look.col.b : Int), .int .u8 (r.look.col.a : Int), .int .u8 (r.look.bak.r : Int), .int .u8 (r.look.bak.g : Int), .int .u8 (r.look.bak.b : Int), .int .u8 (r.look.bak.a : Int), .bool r.look.brd, .int .i64 r.look.pad]] w fun e w' => e = .returned (.int .i64 (keyR r : Int)) ∧ w.alloc (.cells #[.int .u8 (r.kind : Int), .string r.cls, .int .u8 (r.st : Int), .int .u8 (r.look.has : Int), .int .u8 (r.look.col.r : Int), .int .u8 (r.look.col.g : Int), .int .u8 (r.look.col.b : Int), .int .u8 (r.look.col.a : Int), .int .u8 (r.look.bak.r : Int), .int .u8 (r.look.bak.g : Int), .int .u8 (r.look.bak.b : Int), .int .u8 (r.look.bak.a : Int), .bool r.look.brd, .int .i64 r.look.pad] 46) = w' := by
  have hk : keyR r = Lib.onesCount r.st * 4 + (if r.cls.size = 0 then 0 else 2) + (if r.kind = 0 then 0 else 1) := rfl
  have h8 := ones_lt _ hst
  have hO := fun w => ones_any r.st w hst
  generalize keyR r = K at *
  generalize Lib.onesCount r.st = S at *
  have hS : 0 ≤ S := by omega
  by_cases h1 : r.cls.size = 0
  · have z1 := bytes_nil h1
    rw [if_pos h1] at hk
    by_cases h2 : r.kind = 0
    · have z2 : ((r.kind : Int) != 0) = false := by simp [h2]
      rw [if_pos h2] at hk
      have HK := hid hk
      clear hk h1 h2
      go_enter Tryd.func34, Tryd.ntmps34
      go_wp2_with (go_at_call 38; refine (hO _).mono ?_; rintro e w' ⟨rfl, rfl⟩)
      go_ret
      exact ⟨ret_int (by rw [HK.out]; omega), rfl⟩
    · have z2 : ¬ (r.kind : Int) = 0 := by omega
      rw [if_neg h2] at hk
      have HK := hid hk
      clear hk h1 h2
      go_enter Tryd.func34, Tryd.ntmps34
      go_wp2_with (go_at_call 38; refine (hO _).mono ?_; rintro e w' ⟨rfl, rfl⟩)
      go_ret
      exact ⟨ret_int (by rw [HK.out]; omega), rfl⟩
  · have z1 := bytes_some h1
    rw [if_neg h1] at hk
    by_cases h2 : r.kind = 0
    · have z2 : ((r.kind : Int) != 0) = false := by simp [h2]
      rw [if_pos h2] at hk
      have HK := hid hk
      clear hk h1 h2
      go_enter Tryd.func34, Tryd.ntmps34
      go_wp2_with (go_at_call 38; refine (hO _).mono ?_; rintro e w' ⟨rfl, rfl⟩)
      go_ret
      exact ⟨ret_int (by rw [HK.out]; omega), rfl⟩
    · have z2 : ¬ (r.kind : Int) = 0 := by omega
      rw [if_neg h2] at hk
      have HK := hid hk
      clear hk h1 h2
      go_enter Tryd.func34, Tryd.ntmps34
      go_wp2_with (go_at_call 38; refine (hO _).mono ?_; rintro e w' ⟨rfl, rfl⟩)
      go_ret
      exact ⟨ret_int (by rw [HK.out]; omega), rfl⟩

/-- A region that draws its order, in whatever class of worlds its operations stay. -/
theorem region_cls {P : Program} {id : Nat} {Q : Exit → Act → World → Prop} {a : Act} {w : World} {l : List Oper} (C : World → Prop) (hm : P.follows .mixedOrders = true) (hB : Region.lexB .any l.toArray = true)
    (h0 : C { w with drawn := w.drawn + 1 }) (h : wpQuiet P l.toArray C (fun a' => ∀ w1, C w1 → Q .normal a' w1) l a) : (Code.region id l.toArray true).wp P Q a w := by
  refine wp_region_quiet (C := C) hm hB h0 ?_
  simpa using h

/-- The worlds that are the row's own world, but for draws and new blocks. -/
def Ex (nn blk off : Nat) (d : Array Nat) (W : World) := { w' : World // SW (encN nn) W blk off d w' ∧ Holds (encN nn) W blk off d }
def ex {nn blk off : Nat} {d : Array Nat} {W : World} (x : Ex nn blk off d W) : World := x.1
section
variable {nn blk off : Nat} {d : Array Nat} {W : World}
theorem put_same (h : Holds (encN nn) W blk off d) (n : Nat) : putRow (encN nn) (Sort.ahead W n) blk off d = Sort.ahead W n := by
  have h' : Holds (encN nn) (Sort.ahead W n) blk off d := h
  have q := sortWorld_start (encN nn) (Sort.ahead W n) blk off d h'
  unfold sortWorld at q
  exact q
theorem sw_cell_all {w' : World} (s : SW (encN nn) W blk off d w') (h : Holds (encN nn) W blk off d) {b : Nat} (hb : b < W.heap.size) (k : Nat) : w'.cell? ⟨b, k, none⟩ = W.cell? ⟨b, k, none⟩ := by
  obtain ⟨n, os, rfl⟩ := s
  unfold sortWorld
  rw [put_same h, cell?_grow _ _ _ (by exact hb)]
  rfl
theorem ex_cell (x : Ex nn blk off d W) (b : Nat) (o : Int) (h : b < W.heap.size) : (ex x).cell? ⟨b, o.toNat, none⟩ = W.cell? ⟨b, o.toNat, none⟩ := sw_cell_all x.2.1 x.2.2 h _
theorem ex_cell' (x : Ex nn blk off d W) (b : Nat) (o : Nat) (h : b < W.heap.size) : (ex x).cell? ⟨b, o, none⟩ = W.cell? ⟨b, o, none⟩ := sw_cell_all x.2.1 x.2.2 h _
attribute [go_sem] ex_cell'
theorem in_ex {P : Program} {f : FuncId} {args : Array Value} {v : Value} {x : Ex nn blk off d W} {o : Obj} (h : Calls P f args (ex x) fun e w' => e = .returned v ∧ (ex x).alloc o = w') : Calls P f args (ex x) fun e w'' => e = .returned v ∧ ∃ y : Ex nn blk off d W, w'' = ex y :=
  h.mono fun _ _ ⟨he, hb⟩ => ⟨he, ⟨_, x.2.1.alloc o, x.2.2⟩, hb.symm⟩
end

set_option maxHeartbeats 4000000 in
set_option maxRecDepth 100000 in
theorem less_cells (nn blk n c oc lb ob g o i j a b : Nat) (d : Array Nat) (V : World) (r s : Ru) (hr : r.st < 256) (hs : s.st < 256) (hH : Holds (encN nn) V blk 0 d) (hi : i < n) (hj : j < n) (ha : a < nn) (hb : b < nn)
    (hl : V.cell? ⟨lb, 0, none⟩ = some (.slice (some ⟨g, o, none⟩) nn c)) (ho : V.cell? ⟨ob, 0, none⟩ = some (.slice (some ⟨blk, 0, none⟩) n oc)) (hni : V.cell? ⟨blk, i, none⟩ = some (.int .i64 (a : Int))) (hnj : V.cell? ⟨blk, j, none⟩ = some (.int .i64 (b : Int)))
    (c0 : V.cell? ⟨g, o + a * 14, none⟩ = some (.int .u8 (r.kind : Int))) (c1 : V.cell? ⟨g, o + a * 14 + 1, none⟩ = some (.string r.cls)) (c2 : V.cell? ⟨g, o + a * 14 + 2, none⟩ = some (.int .u8 (r.st : Int))) (c3 : V.cell? ⟨g, o + a * 14 + 3, none⟩ = some (.int .u8 (r.look.has : Int))) (c4 : V.cell? ⟨g, o + a * 14 + 4, none⟩ = some (.int .u8 (r.look.col.r : Int))) (c5 : V.cell? ⟨g, o + a * 14 + 5, none⟩ = some (.int .u8 (r.look.col.g : Int))) (c6 : V.cell? ⟨g, o + a * 14 + 6, none⟩ = some (.int .u8 (r.look.col.b : Int))) (c7 : V.cell? ⟨g, o + a * 14 + 7, none⟩ = some (.int .u8 (r.look.col.a : Int))) (c8 : V.cell? ⟨g, o + a * 14 + 8, none⟩ = some (.int .u8 (r.look.bak.r : Int))) (c9 : V.cell? ⟨g, o + a * 14 + 9, none⟩ = some (.int .u8 (r.look.bak.g : Int))) (c10 : V.cell? ⟨g, o + a * 14 + 10, none⟩ = some (.int .u8 (r.look.bak.b : Int))) (c11 : V.cell? ⟨g, o + a * 14 + 11, none⟩ = some (.int .u8 (r.look.bak.a : Int))) (c12 : V.cell? ⟨g, o + a * 14 + 12, none⟩ = some (.bool r.look.brd)) (c13 : V.cell? ⟨g, o + a * 14 + 13, none⟩ = some (.int .i64 r.look.pad)) (d0 : V.cell? ⟨g, o + b * 14, none⟩ = some (.int .u8 (s.kind : Int))) (d1 : V.cell? ⟨g, o + b * 14 + 1, none⟩ = some (.string s.cls)) (d2 : V.cell? ⟨g, o + b * 14 + 2, none⟩ = some (.int .u8 (s.st : Int))) (d3 : V.cell? ⟨g, o + b * 14 + 3, none⟩ = some (.int .u8 (s.look.has : Int))) (d4 : V.cell? ⟨g, o + b * 14 + 4, none⟩ = some (.int .u8 (s.look.col.r : Int))) (d5 : V.cell? ⟨g, o + b * 14 + 5, none⟩ = some (.int .u8 (s.look.col.g : Int))) (d6 : V.cell? ⟨g, o + b * 14 + 6, none⟩ = some (.int .u8 (s.look.col.b : Int))) (d7 : V.cell? ⟨g, o + b * 14 + 7, none⟩ = some (.int .u8 (s.look.col.a : Int))) (d8 : V.cell? ⟨g, o + b * 14 + 8, none⟩ = some (.int .u8 (s.look.bak.r : Int))) (d9 : V.cell? ⟨g, o + b * 14 + 9, none⟩ = some (.int .u8 (s.look.bak.g : Int))) (d10 : V.cell? ⟨g, o + b * 14 + 10, none⟩ = some (.int .u8 (s.look.bak.b : Int))) (d11 : V.cell? ⟨g, o + b * 14 + 11, none⟩ = some (.int .u8 (s.look.bak.a : Int))) (d12 : V.cell? ⟨g, o + b * 14 + 12, none⟩ = some (.bool s.look.brd)) (d13 : V.cell? ⟨g, o + b * 14 + 13, none⟩ = some (.int .i64 s.look.pad)) :
    Calls Tryd.prog 33 #[.int .i64 (i : Int), .int .i64 (j : Int), .pointer (some ⟨lb, 0, none⟩), .pointer (some ⟨ob, 0, none⟩)] V fun e w' => e = .returned (.bool (decide (keyR r < keyR s))) ∧ SW (encN nn) V blk 0 d w' := by
  have b1 := World.block_lt_of_cell? _ _ hl
  have b2 := World.block_lt_of_cell? _ _ ho
  have b3 := World.block_lt_of_cell? _ _ hni
  have b4 := World.block_lt_of_cell? _ _ c0
  simp only at b1 b2 b3 b4
  have ne : Nonempty (Ex nn blk 0 d V) := ⟨⟨V, SW.start hH, hH⟩⟩
  have hst : SW (encN nn) V blk 0 d { V with drawn := V.drawn + 1 } := (SW.start hH).drewN 1
  have HH := hid hH
  clear hH
  have hW1 := fun w => weight_any r hr w
  have hW2 := fun w => weight_any s hs w
  go_enter Tryd.func33, Tryd.ntmps33
  go_wp2
  refine region_cls (fun w' => ∃ y : Ex nn blk 0 d V, w' = ex y) mixed (by kernel_rfl) ⟨⟨_, hst, HH.out⟩, rfl⟩ ?_
  repeat (go_big_quiet_step (first | (go_at_call 34; with_reducible exact in_ex (hW1 _)) | (go_at_call 34; with_reducible exact in_ex (hW2 _))))
  refine wpQuiet_nil ?_
  intro w1 hw1
  go_wp2
  go_ret
  obtain ⟨y, rfl⟩ := hw1
  exact ⟨ret_bool (by first | (rw [decide_eq_decide]; done) | (rw [decide_eq_decide]; omega)), y.2.1⟩
end Go.Proofs.YtoiondgcjbdonaaDoor
