/- Layer 21: the two maps; words. (Printed by gen_b.py.) -/
import Derived.Test.YtcfgpmmclijonaaGreatDoorKeA
import Derived.Test.YtcfgpmmclijonaaGreatDoorMapRun
namespace Go.Proofs.YtcfgpmmclijonaaGreatDoor
set_option linter.unusedVariables false
set_option linter.unusedSimpArgs false
set_option maxRecDepth 100000
open Go.RowKit Go.Shelf Go.Lib Go.MapKept
set_option maxRecDepth 100000

def numV : List (ByteArray × Value) := [({ data := #[49] }, .agg #[.string { data := #[104, 111, 109, 101] }]), ({ data := #[50] }, .agg #[.string { data := #[105, 110, 115, 101, 114, 116] }]), ({ data := #[51] }, .agg #[.string { data := #[100, 101, 108, 101, 116, 101] }]), ({ data := #[52] }, .agg #[.string { data := #[101, 110, 100] }]), ({ data := #[53] }, .agg #[.string { data := #[112, 97, 103, 101, 117, 112] }]), ({ data := #[54] }, .agg #[.string { data := #[112, 97, 103, 101, 100, 111, 119, 110] }]), ({ data := #[49, 49] }, .agg #[.string { data := #[102, 49] }]), ({ data := #[49, 50] }, .agg #[.string { data := #[102, 50] }]), ({ data := #[49, 51] }, .agg #[.string { data := #[102, 51] }]), ({ data := #[49, 52] }, .agg #[.string { data := #[102, 52] }]), ({ data := #[49, 53] }, .agg #[.string { data := #[102, 53] }]), ({ data := #[49, 55] }, .agg #[.string { data := #[102, 54] }]), ({ data := #[49, 56] }, .agg #[.string { data := #[102, 55] }]), ({ data := #[49, 57] }, .agg #[.string { data := #[102, 56] }]), ({ data := #[50, 48] }, .agg #[.string { data := #[102, 57] }]), ({ data := #[50, 49] }, .agg #[.string { data := #[102, 49, 48] }]), ({ data := #[50, 51] }, .agg #[.string { data := #[102, 49, 49] }]), ({ data := #[50, 52] }, .agg #[.string { data := #[102, 49, 50] }])]
def numE (i : Nat) : Array MapEntry := (ents 0 ((numV.map fun p => (.string p.1, p.2)).take i)).toArray
theorem num_ins0 (w : World) : (Instr.mapUpdate 128 (.map (some w.heap.size)) (.string { data := #[49] }) (.agg #[.string { data := #[104, 111, 109, 101] }])).run Tryz.prog (w.alloc (.map (numE 0) 0)) = .ok () (w.alloc (.map (numE 1) 1)) := by
  rw [run_insert_new Tryz.underlying128 Tryz.underlying9 (d := .string) (key := .string { data := #[49] }) trivial 0 _ (by kernel_rfl)]
  rw [show (numE 0).push _ = numE 1 from by kernel_rfl]
theorem num_ins1 (w : World) : (Instr.mapUpdate 128 (.map (some w.heap.size)) (.string { data := #[50] }) (.agg #[.string { data := #[105, 110, 115, 101, 114, 116] }])).run Tryz.prog (w.alloc (.map (numE 1) 1)) = .ok () (w.alloc (.map (numE 2) 2)) := by
  rw [run_insert_new Tryz.underlying128 Tryz.underlying9 (d := .string) (key := .string { data := #[50] }) trivial 1 _ (by kernel_rfl)]
  rw [show (numE 1).push _ = numE 2 from by kernel_rfl]
theorem num_ins2 (w : World) : (Instr.mapUpdate 128 (.map (some w.heap.size)) (.string { data := #[51] }) (.agg #[.string { data := #[100, 101, 108, 101, 116, 101] }])).run Tryz.prog (w.alloc (.map (numE 2) 2)) = .ok () (w.alloc (.map (numE 3) 3)) := by
  rw [run_insert_new Tryz.underlying128 Tryz.underlying9 (d := .string) (key := .string { data := #[51] }) trivial 2 _ (by kernel_rfl)]
  rw [show (numE 2).push _ = numE 3 from by kernel_rfl]
theorem num_ins3 (w : World) : (Instr.mapUpdate 128 (.map (some w.heap.size)) (.string { data := #[52] }) (.agg #[.string { data := #[101, 110, 100] }])).run Tryz.prog (w.alloc (.map (numE 3) 3)) = .ok () (w.alloc (.map (numE 4) 4)) := by
  rw [run_insert_new Tryz.underlying128 Tryz.underlying9 (d := .string) (key := .string { data := #[52] }) trivial 3 _ (by kernel_rfl)]
  rw [show (numE 3).push _ = numE 4 from by kernel_rfl]
theorem num_ins4 (w : World) : (Instr.mapUpdate 128 (.map (some w.heap.size)) (.string { data := #[53] }) (.agg #[.string { data := #[112, 97, 103, 101, 117, 112] }])).run Tryz.prog (w.alloc (.map (numE 4) 4)) = .ok () (w.alloc (.map (numE 5) 5)) := by
  rw [run_insert_new Tryz.underlying128 Tryz.underlying9 (d := .string) (key := .string { data := #[53] }) trivial 4 _ (by kernel_rfl)]
  rw [show (numE 4).push _ = numE 5 from by kernel_rfl]
theorem num_ins5 (w : World) : (Instr.mapUpdate 128 (.map (some w.heap.size)) (.string { data := #[54] }) (.agg #[.string { data := #[112, 97, 103, 101, 100, 111, 119, 110] }])).run Tryz.prog (w.alloc (.map (numE 5) 5)) = .ok () (w.alloc (.map (numE 6) 6)) := by
  rw [run_insert_new Tryz.underlying128 Tryz.underlying9 (d := .string) (key := .string { data := #[54] }) trivial 5 _ (by kernel_rfl)]
  rw [show (numE 5).push _ = numE 6 from by kernel_rfl]
theorem num_ins6 (w : World) : (Instr.mapUpdate 128 (.map (some w.heap.size)) (.string { data := #[49, 49] }) (.agg #[.string { data := #[102, 49] }])).run Tryz.prog (w.alloc (.map (numE 6) 6)) = .ok () (w.alloc (.map (numE 7) 7)) := by
  rw [run_insert_new Tryz.underlying128 Tryz.underlying9 (d := .string) (key := .string { data := #[49, 49] }) trivial 6 _ (by kernel_rfl)]
  rw [show (numE 6).push _ = numE 7 from by kernel_rfl]
theorem num_ins7 (w : World) : (Instr.mapUpdate 128 (.map (some w.heap.size)) (.string { data := #[49, 50] }) (.agg #[.string { data := #[102, 50] }])).run Tryz.prog (w.alloc (.map (numE 7) 7)) = .ok () (w.alloc (.map (numE 8) 8)) := by
  rw [run_insert_new Tryz.underlying128 Tryz.underlying9 (d := .string) (key := .string { data := #[49, 50] }) trivial 7 _ (by kernel_rfl)]
  rw [show (numE 7).push _ = numE 8 from by kernel_rfl]
theorem num_ins8 (w : World) : (Instr.mapUpdate 128 (.map (some w.heap.size)) (.string { data := #[49, 51] }) (.agg #[.string { data := #[102, 51] }])).run Tryz.prog (w.alloc (.map (numE 8) 8)) = .ok () (w.alloc (.map (numE 9) 9)) := by
  rw [run_insert_new Tryz.underlying128 Tryz.underlying9 (d := .string) (key := .string { data := #[49, 51] }) trivial 8 _ (by kernel_rfl)]
  rw [show (numE 8).push _ = numE 9 from by kernel_rfl]
theorem num_ins9 (w : World) : (Instr.mapUpdate 128 (.map (some w.heap.size)) (.string { data := #[49, 52] }) (.agg #[.string { data := #[102, 52] }])).run Tryz.prog (w.alloc (.map (numE 9) 9)) = .ok () (w.alloc (.map (numE 10) 10)) := by
  rw [run_insert_new Tryz.underlying128 Tryz.underlying9 (d := .string) (key := .string { data := #[49, 52] }) trivial 9 _ (by kernel_rfl)]
  rw [show (numE 9).push _ = numE 10 from by kernel_rfl]
theorem num_ins10 (w : World) : (Instr.mapUpdate 128 (.map (some w.heap.size)) (.string { data := #[49, 53] }) (.agg #[.string { data := #[102, 53] }])).run Tryz.prog (w.alloc (.map (numE 10) 10)) = .ok () (w.alloc (.map (numE 11) 11)) := by
  rw [run_insert_new Tryz.underlying128 Tryz.underlying9 (d := .string) (key := .string { data := #[49, 53] }) trivial 10 _ (by kernel_rfl)]
  rw [show (numE 10).push _ = numE 11 from by kernel_rfl]
theorem num_ins11 (w : World) : (Instr.mapUpdate 128 (.map (some w.heap.size)) (.string { data := #[49, 55] }) (.agg #[.string { data := #[102, 54] }])).run Tryz.prog (w.alloc (.map (numE 11) 11)) = .ok () (w.alloc (.map (numE 12) 12)) := by
  rw [run_insert_new Tryz.underlying128 Tryz.underlying9 (d := .string) (key := .string { data := #[49, 55] }) trivial 11 _ (by kernel_rfl)]
  rw [show (numE 11).push _ = numE 12 from by kernel_rfl]
theorem num_ins12 (w : World) : (Instr.mapUpdate 128 (.map (some w.heap.size)) (.string { data := #[49, 56] }) (.agg #[.string { data := #[102, 55] }])).run Tryz.prog (w.alloc (.map (numE 12) 12)) = .ok () (w.alloc (.map (numE 13) 13)) := by
  rw [run_insert_new Tryz.underlying128 Tryz.underlying9 (d := .string) (key := .string { data := #[49, 56] }) trivial 12 _ (by kernel_rfl)]
  rw [show (numE 12).push _ = numE 13 from by kernel_rfl]
theorem num_ins13 (w : World) : (Instr.mapUpdate 128 (.map (some w.heap.size)) (.string { data := #[49, 57] }) (.agg #[.string { data := #[102, 56] }])).run Tryz.prog (w.alloc (.map (numE 13) 13)) = .ok () (w.alloc (.map (numE 14) 14)) := by
  rw [run_insert_new Tryz.underlying128 Tryz.underlying9 (d := .string) (key := .string { data := #[49, 57] }) trivial 13 _ (by kernel_rfl)]
  rw [show (numE 13).push _ = numE 14 from by kernel_rfl]
theorem num_ins14 (w : World) : (Instr.mapUpdate 128 (.map (some w.heap.size)) (.string { data := #[50, 48] }) (.agg #[.string { data := #[102, 57] }])).run Tryz.prog (w.alloc (.map (numE 14) 14)) = .ok () (w.alloc (.map (numE 15) 15)) := by
  rw [run_insert_new Tryz.underlying128 Tryz.underlying9 (d := .string) (key := .string { data := #[50, 48] }) trivial 14 _ (by kernel_rfl)]
  rw [show (numE 14).push _ = numE 15 from by kernel_rfl]
theorem num_ins15 (w : World) : (Instr.mapUpdate 128 (.map (some w.heap.size)) (.string { data := #[50, 49] }) (.agg #[.string { data := #[102, 49, 48] }])).run Tryz.prog (w.alloc (.map (numE 15) 15)) = .ok () (w.alloc (.map (numE 16) 16)) := by
  rw [run_insert_new Tryz.underlying128 Tryz.underlying9 (d := .string) (key := .string { data := #[50, 49] }) trivial 15 _ (by kernel_rfl)]
  rw [show (numE 15).push _ = numE 16 from by kernel_rfl]
theorem num_ins16 (w : World) : (Instr.mapUpdate 128 (.map (some w.heap.size)) (.string { data := #[50, 51] }) (.agg #[.string { data := #[102, 49, 49] }])).run Tryz.prog (w.alloc (.map (numE 16) 16)) = .ok () (w.alloc (.map (numE 17) 17)) := by
  rw [run_insert_new Tryz.underlying128 Tryz.underlying9 (d := .string) (key := .string { data := #[50, 51] }) trivial 16 _ (by kernel_rfl)]
  rw [show (numE 16).push _ = numE 17 from by kernel_rfl]
theorem num_ins17 (w : World) : (Instr.mapUpdate 128 (.map (some w.heap.size)) (.string { data := #[50, 52] }) (.agg #[.string { data := #[102, 49, 50] }])).run Tryz.prog (w.alloc (.map (numE 17) 17)) = .ok () (w.alloc (.map (numE 18) 18)) := by
  rw [run_insert_new Tryz.underlying128 Tryz.underlying9 (d := .string) (key := .string { data := #[50, 52] }) trivial 17 _ (by kernel_rfl)]
  rw [show (numE 17).push _ = numE 18 from by kernel_rfl]
set_option maxHeartbeats 4000000 in
theorem numbered_any (w : World) : Calls Tryz.prog 100 #[] w fun e w' => e = .returned (.map (some w.heap.size)) ∧ w'.heap[w.heap.size]? = some (.map (numE 18) 18) ∧ Below w.heap.size w w' := by
  have hmm := @run_makeMap Tryz.prog
  have i0 := num_ins0 w
  have i1 := num_ins1 w
  have i2 := num_ins2 w
  have i3 := num_ins3 w
  have i4 := num_ins4 w
  have i5 := num_ins5 w
  have i6 := num_ins6 w
  have i7 := num_ins7 w
  have i8 := num_ins8 w
  have i9 := num_ins9 w
  have i10 := num_ins10 w
  have i11 := num_ins11 w
  have i12 := num_ins12 w
  have i13 := num_ins13 w
  have i14 := num_ins14 w
  have i15 := num_ins15 w
  have i16 := num_ins16 w
  have i17 := num_ins17 w
  obtain ⟨m, hm⟩ : ∃ m, m = numE := ⟨_, rfl⟩
  have h00 : (#[] : Array MapEntry) = m 0 := by rw [hm]; rfl
  rw [← hm] at i0 i1 i2 i3 i4 i5 i6 i7 i8 i9 i10 i11 i12 i13 i14 i15 i16 i17
  rw [← hm]
  clear hm
  have q0 := i0
  rw [← h00] at q0
  go_enter Tryz.func100, Tryz.ntmps100
  go_wp2
  go_ret
  exact ⟨rfl, World.alloc_heap_new _ _, (Below.refl _ _).alloc (Nat.le_refl _) _⟩
def arrV : List (Int × Value) := [(65, .agg #[.string { data := #[117, 112] }]), (66, .agg #[.string { data := #[100, 111, 119, 110] }]), (67, .agg #[.string { data := #[114, 105, 103, 104, 116] }]), (68, .agg #[.string { data := #[108, 101, 102, 116] }]), (72, .agg #[.string { data := #[104, 111, 109, 101] }]), (70, .agg #[.string { data := #[101, 110, 100] }])]
def arrE (i : Nat) : Array MapEntry := (ents 0 ((arrV.map fun p => (.int .u8 p.1, p.2)).take i)).toArray
end Go.Proofs.YtcfgpmmclijonaaGreatDoor

/- Layer 21: words, names, whether a key may be, both sides. (Printed by gen_c.py.) -/
namespace Go.Proofs.YtcfgpmmclijonaaGreatDoor
set_option linter.unusedVariables false
set_option linter.unusedSimpArgs false
set_option maxRecDepth 100000
open Go.RowKit Go.Shelf Go.Lib Go.MapKept
set_option maxRecDepth 100000

/-! ### looking up -/
theorem mk_beq (l : By) (s : ByteArray) : ((⟨l.toArray⟩ : ByteArray) == s) = (l == s.data.toList) := by
  rw [ba_beq, Bool.eq_iff_iff]
  simp only [decide_eq_true_eq, beq_iff_eq]
  constructor
  · rintro rfl
    simp
  · rintro rfl
    exact ba_mk s
theorem numV_eq : numV = numsL.map fun p => (⟨p.1.toArray⟩, .agg #[.string ⟨p.2.toArray⟩]) := by rfl
theorem arrV_eq : arrV = arrsL.map fun p => ((p.1 : Int), .agg #[.string ⟨p.2.toArray⟩]) := by rfl
theorem numE_eq : (numE 18).toList = ents 0 (numV.map fun p => (.string p.1, p.2)) := by kernel_rfl
theorem arrE_eq : (arrE 6).toList = ents 0 (arrV.map fun p => (.int .u8 p.1, p.2)) := by kernel_rfl
theorem row_zero (w : World) : (zeroValue 131).run Tryz.prog w = .ok (.agg #[.string { data := #[] }]) w := by kernel_rfl
theorem num_look (b : Nat) (w : World) (hb : w.heap[b]? = some (.map (numE 18) 18)) (n : ByteArray) : (Instr.lookup 128 (.map (some b)) (.string n) false).run Tryz.prog w = .ok (.agg #[.string ⟨(numL n.data.toList).toArray⟩]) w := by
  obtain ⟨r, hr, hv⟩ := find_str n numV 0 0
  rw [← numE_eq] at hr
  rw [run_lookup_now Tryz.underlying128 Tryz.underlying9 (key := .string n) trivial hb hr (row_zero w) false, hv]
  rw [if_neg (by decide), numV_eq, List.find?_map]
  unfold numL
  have : ((fun p : ByteArray × Value => p.1 == n) ∘ fun p : By × By => ((⟨p.1.toArray⟩ : ByteArray), (.agg #[.string ⟨p.2.toArray⟩] : Value))) = fun p => p.1 == n.data.toList := by
    funext p
    exact mk_beq p.1 n
  rw [this]
  cases numsL.find? fun p => p.1 == n.data.toList <;> rfl
/-! ### words -/
def tenL : List By := [[101, 110, 116, 101, 114], [116, 97, 98], [101, 115, 99, 97, 112, 101], [115, 112, 97, 99, 101], [112, 108, 117, 115], [98, 97, 99, 107, 115, 112, 97, 99, 101], [117, 112], [100, 111, 119, 110], [108, 101, 102, 116], [114, 105, 103, 104, 116]]
theorem ten_facts (s : ByteArray) : (decide (s.data.toList ∈ tenL) = false ∧ (s.toList == [101, 110, 116, 101, 114]) = false ∧ (s.toList == [116, 97, 98]) = false ∧ (s.toList == [101, 115, 99, 97, 112, 101]) = false ∧ (s.toList == [115, 112, 97, 99, 101]) = false ∧ (s.toList == [112, 108, 117, 115]) = false ∧ (s.toList == [98, 97, 99, 107, 115, 112, 97, 99, 101]) = false ∧ (s.toList == [117, 112]) = false ∧ (s.toList == [100, 111, 119, 110]) = false ∧ (s.toList == [108, 101, 102, 116]) = false ∧ (s.toList == [114, 105, 103, 104, 116]) = false) ∨
    (decide (s.data.toList ∈ tenL) = true ∧ (s.toList == [101, 110, 116, 101, 114]) = true ∧ (s.toList == [116, 97, 98]) = false ∧ (s.toList == [101, 115, 99, 97, 112, 101]) = false ∧ (s.toList == [115, 112, 97, 99, 101]) = false ∧ (s.toList == [112, 108, 117, 115]) = false ∧ (s.toList == [98, 97, 99, 107, 115, 112, 97, 99, 101]) = false ∧ (s.toList == [117, 112]) = false ∧ (s.toList == [100, 111, 119, 110]) = false ∧ (s.toList == [108, 101, 102, 116]) = false ∧ (s.toList == [114, 105, 103, 104, 116]) = false) ∨
    (decide (s.data.toList ∈ tenL) = true ∧ (s.toList == [101, 110, 116, 101, 114]) = false ∧ (s.toList == [116, 97, 98]) = true ∧ (s.toList == [101, 115, 99, 97, 112, 101]) = false ∧ (s.toList == [115, 112, 97, 99, 101]) = false ∧ (s.toList == [112, 108, 117, 115]) = false ∧ (s.toList == [98, 97, 99, 107, 115, 112, 97, 99, 101]) = false ∧ (s.toList == [117, 112]) = false ∧ (s.toList == [100, 111, 119, 110]) = false ∧ (s.toList == [108, 101, 102, 116]) = false ∧ (s.toList == [114, 105, 103, 104, 116]) = false) ∨
    (decide (s.data.toList ∈ tenL) = true ∧ (s.toList == [101, 110, 116, 101, 114]) = false ∧ (s.toList == [116, 97, 98]) = false ∧ (s.toList == [101, 115, 99, 97, 112, 101]) = true ∧ (s.toList == [115, 112, 97, 99, 101]) = false ∧ (s.toList == [112, 108, 117, 115]) = false ∧ (s.toList == [98, 97, 99, 107, 115, 112, 97, 99, 101]) = false ∧ (s.toList == [117, 112]) = false ∧ (s.toList == [100, 111, 119, 110]) = false ∧ (s.toList == [108, 101, 102, 116]) = false ∧ (s.toList == [114, 105, 103, 104, 116]) = false) ∨
    (decide (s.data.toList ∈ tenL) = true ∧ (s.toList == [101, 110, 116, 101, 114]) = false ∧ (s.toList == [116, 97, 98]) = false ∧ (s.toList == [101, 115, 99, 97, 112, 101]) = false ∧ (s.toList == [115, 112, 97, 99, 101]) = true ∧ (s.toList == [112, 108, 117, 115]) = false ∧ (s.toList == [98, 97, 99, 107, 115, 112, 97, 99, 101]) = false ∧ (s.toList == [117, 112]) = false ∧ (s.toList == [100, 111, 119, 110]) = false ∧ (s.toList == [108, 101, 102, 116]) = false ∧ (s.toList == [114, 105, 103, 104, 116]) = false) ∨
    (decide (s.data.toList ∈ tenL) = true ∧ (s.toList == [101, 110, 116, 101, 114]) = false ∧ (s.toList == [116, 97, 98]) = false ∧ (s.toList == [101, 115, 99, 97, 112, 101]) = false ∧ (s.toList == [115, 112, 97, 99, 101]) = false ∧ (s.toList == [112, 108, 117, 115]) = true ∧ (s.toList == [98, 97, 99, 107, 115, 112, 97, 99, 101]) = false ∧ (s.toList == [117, 112]) = false ∧ (s.toList == [100, 111, 119, 110]) = false ∧ (s.toList == [108, 101, 102, 116]) = false ∧ (s.toList == [114, 105, 103, 104, 116]) = false) ∨
    (decide (s.data.toList ∈ tenL) = true ∧ (s.toList == [101, 110, 116, 101, 114]) = false ∧ (s.toList == [116, 97, 98]) = false ∧ (s.toList == [101, 115, 99, 97, 112, 101]) = false ∧ (s.toList == [115, 112, 97, 99, 101]) = false ∧ (s.toList == [112, 108, 117, 115]) = false ∧ (s.toList == [98, 97, 99, 107, 115, 112, 97, 99, 101]) = true ∧ (s.toList == [117, 112]) = false ∧ (s.toList == [100, 111, 119, 110]) = false ∧ (s.toList == [108, 101, 102, 116]) = false ∧ (s.toList == [114, 105, 103, 104, 116]) = false) ∨
    (decide (s.data.toList ∈ tenL) = true ∧ (s.toList == [101, 110, 116, 101, 114]) = false ∧ (s.toList == [116, 97, 98]) = false ∧ (s.toList == [101, 115, 99, 97, 112, 101]) = false ∧ (s.toList == [115, 112, 97, 99, 101]) = false ∧ (s.toList == [112, 108, 117, 115]) = false ∧ (s.toList == [98, 97, 99, 107, 115, 112, 97, 99, 101]) = false ∧ (s.toList == [117, 112]) = true ∧ (s.toList == [100, 111, 119, 110]) = false ∧ (s.toList == [108, 101, 102, 116]) = false ∧ (s.toList == [114, 105, 103, 104, 116]) = false) ∨
    (decide (s.data.toList ∈ tenL) = true ∧ (s.toList == [101, 110, 116, 101, 114]) = false ∧ (s.toList == [116, 97, 98]) = false ∧ (s.toList == [101, 115, 99, 97, 112, 101]) = false ∧ (s.toList == [115, 112, 97, 99, 101]) = false ∧ (s.toList == [112, 108, 117, 115]) = false ∧ (s.toList == [98, 97, 99, 107, 115, 112, 97, 99, 101]) = false ∧ (s.toList == [117, 112]) = false ∧ (s.toList == [100, 111, 119, 110]) = true ∧ (s.toList == [108, 101, 102, 116]) = false ∧ (s.toList == [114, 105, 103, 104, 116]) = false) ∨
    (decide (s.data.toList ∈ tenL) = true ∧ (s.toList == [101, 110, 116, 101, 114]) = false ∧ (s.toList == [116, 97, 98]) = false ∧ (s.toList == [101, 115, 99, 97, 112, 101]) = false ∧ (s.toList == [115, 112, 97, 99, 101]) = false ∧ (s.toList == [112, 108, 117, 115]) = false ∧ (s.toList == [98, 97, 99, 107, 115, 112, 97, 99, 101]) = false ∧ (s.toList == [117, 112]) = false ∧ (s.toList == [100, 111, 119, 110]) = false ∧ (s.toList == [108, 101, 102, 116]) = true ∧ (s.toList == [114, 105, 103, 104, 116]) = false) ∨
    (decide (s.data.toList ∈ tenL) = true ∧ (s.toList == [101, 110, 116, 101, 114]) = false ∧ (s.toList == [116, 97, 98]) = false ∧ (s.toList == [101, 115, 99, 97, 112, 101]) = false ∧ (s.toList == [115, 112, 97, 99, 101]) = false ∧ (s.toList == [112, 108, 117, 115]) = false ∧ (s.toList == [98, 97, 99, 107, 115, 112, 97, 99, 101]) = false ∧ (s.toList == [117, 112]) = false ∧ (s.toList == [100, 111, 119, 110]) = false ∧ (s.toList == [108, 101, 102, 116]) = false ∧ (s.toList == [114, 105, 103, 104, 116]) = true) := by
  rw [ByteArray.toList_eq]
  generalize s.data.toList = l
  by_cases h : l ∈ tenL
  · rw [decide_eq_true h]
    simp only [tenL, List.mem_cons, List.not_mem_nil, or_false] at h
    rcases h with rfl | rfl | rfl | rfl | rfl | rfl | rfl | rfl | rfl | rfl
    · exact .inr (.inl ⟨rfl, rfl, rfl, rfl, rfl, rfl, rfl, rfl, rfl, rfl, rfl⟩)
    · exact .inr (.inr (.inl ⟨rfl, rfl, rfl, rfl, rfl, rfl, rfl, rfl, rfl, rfl, rfl⟩))
    · exact .inr (.inr (.inr (.inl ⟨rfl, rfl, rfl, rfl, rfl, rfl, rfl, rfl, rfl, rfl, rfl⟩)))
    · exact .inr (.inr (.inr (.inr (.inl ⟨rfl, rfl, rfl, rfl, rfl, rfl, rfl, rfl, rfl, rfl, rfl⟩))))
    · exact .inr (.inr (.inr (.inr (.inr (.inl ⟨rfl, rfl, rfl, rfl, rfl, rfl, rfl, rfl, rfl, rfl, rfl⟩)))))
    · exact .inr (.inr (.inr (.inr (.inr (.inr (.inl ⟨rfl, rfl, rfl, rfl, rfl, rfl, rfl, rfl, rfl, rfl, rfl⟩))))))
    · exact .inr (.inr (.inr (.inr (.inr (.inr (.inr (.inl ⟨rfl, rfl, rfl, rfl, rfl, rfl, rfl, rfl, rfl, rfl, rfl⟩)))))))
    · exact .inr (.inr (.inr (.inr (.inr (.inr (.inr (.inr (.inl ⟨rfl, rfl, rfl, rfl, rfl, rfl, rfl, rfl, rfl, rfl, rfl⟩))))))))
    · exact .inr (.inr (.inr (.inr (.inr (.inr (.inr (.inr (.inr (.inl ⟨rfl, rfl, rfl, rfl, rfl, rfl, rfl, rfl, rfl, rfl, rfl⟩)))))))))
    · exact .inr (.inr (.inr (.inr (.inr (.inr (.inr (.inr (.inr (.inr (⟨rfl, rfl, rfl, rfl, rfl, rfl, rfl, rfl, rfl, rfl, rfl⟩))))))))))
  · rw [decide_eq_false h]
    left
    simp only [tenL, List.mem_cons, List.not_mem_nil, or_false, not_or] at h
    obtain ⟨h1, h2, h3, h4, h5, h6, h7, h8, h9, h10⟩ := h
    simp only [beq_eq_false_iff_ne]
    exact ⟨trivial, h1, h2, h3, h4, h5, h6, h7, h8, h9, h10⟩
theorem words_two (l : By) : l ∈ wordsL ↔ l ∈ numsL.map (·.2) ∨ l ∈ tenL := by
  rw [← List.mem_append]
  have h1 : ∀ x ∈ wordsL, x ∈ numsL.map (·.2) ++ tenL := by decide
  have h2 : ∀ x ∈ numsL.map (·.2) ++ tenL, x ∈ wordsL := by decide
  exact ⟨h1 l, h2 l⟩
theorem num_vals : ∀ e ∈ (numE 18).toList, ∃ l ∈ numsL.map (·.2), e.val = .agg #[.string ⟨l.toArray⟩] := by
  intro e he
  rw [numE_eq] at he
  have h1 := ents_mem _ _ _ he
  rw [numV_eq, List.map_map, List.mem_map] at h1
  obtain ⟨p, hp, hq⟩ := h1
  exact ⟨p.2, List.mem_map.2 ⟨p, hp, rfl⟩, by injection hq with a b; exact b.symm⟩
theorem num_all (l : By) (h : l ∈ numsL.map (·.2)) : ∃ e ∈ (numE 18).toList, e.val = .agg #[.string ⟨l.toArray⟩] := by
  obtain ⟨p, hp, rfl⟩ := List.mem_map.1 h
  rw [numE_eq]
  obtain ⟨x, hx, _, hv⟩ := ents_has 0 (numV.map fun p => (.string p.1, p.2)) (.string ⟨p.1.toArray⟩, .agg #[.string ⟨p.2.toArray⟩]) (by
    rw [numV_eq, List.map_map]
    exact List.mem_map.2 ⟨p, hp, rfl⟩)
  exact ⟨x, hx, hv⟩
theorem num_old : ∀ x ∈ (numE 18).toList, x.born < 18 := by
  intro x hx
  rw [numE_eq] at hx
  have := (ents_born _ _ x hx).2
  rw [List.length_map, show numV.length = 18 by kernel_rfl] at this
  omega
theorem num_nodup : ((numE 18).toList.map (·.born)).Nodup := by rw [numE_eq]; exact ents_nodup _ _
set_option maxHeartbeats 8000000 in
theorem word_any (s : ByteArray) (w : World) : Calls Tryz.prog 83 #[.string s] w fun e w' => e = .returned (.bool (decide (s.data.toList ∈ wordsL))) ∧ Below w.heap.size w w' := by
  have CN := numbered_any w
  have hvals := num_vals
  have hall := num_all
  have hold := num_old
  have hnd := num_nodup
  have HV := hid hvals
  have HA := hid hall
  clear hvals hall
  generalize numE 18 = M at *
  go_enter Tryz.func83, Tryz.ntmps83
  go_wp2_with fail
  refine CN.mono ?_
  rintro e w1 ⟨rfl, hm, hb1⟩
  have hs1 := lt_of_block hm
  have hrg := run_range_map (P := Tryz.prog) w1 128 9 131 w.heap.size M 18 Tryz.underlying128 hm
  go_wp2
  clear hrg
  generalize hr0 : w1.heap.size = r at *
  have hne : w.heap.size ≠ r := by omega
  go_loopw [4] (fun _ wr => ∃ seen, wr.heap[r]? = some (.mapIter (some w.heap.size) 18 seen 18) ∧ wr.heap[w.heap.size]? = some (.map M 18) ∧ Hid (∀ e ∈ M.toList, seen.contains e.born = true → e.val ≠ .agg #[.string s]) ∧ Below w.heap.size w wr)
    (fun _ wr => (leftOf M (wr.iterSeen r)).size)
  case atStart =>
    refine ⟨#[], by rw [← hr0]; exact World.alloc_heap_new _ _, ?_, hid (fun e _ h => by simp at h), hb1.alloc (by omega) _⟩
    rw [Below.heap_alloc _ _ _ (by omega)]
    exact hm
  case round =>
    obtain ⟨seen, hi, hmm, HN, hbr⟩ := hrel
    have hsr := hbr.size
    have hlr := lt_of_block hi
    go_wp2_with (first
      | (at_next; refine wpList_next_now _ rfl _ rfl r w.heap.size 18 18 seen M 18 rfl hi hmm hold (Nat.le_refl _) hnd ?_ ?_)
      | go_in)
    · intro h0
      have hno := all_seen M seen (by rw [h0]; rfl)
      have hnot : ¬ s.data.toList ∈ numsL.map (·.2) := fun hin => by
        obtain ⟨e, he, hv⟩ := HA.out _ hin
        exact HN.out e he (hno e he) (by rw [hv, ba_mk])
      have HNOT := hid hnot
      clear hno hnot
      rcases ten_facts s with ⟨hd, q1, q2, q3, q4, q5, q6, q7, q8, q9, q10⟩ | ⟨hd, q1, q2, q3, q4, q5, q6, q7, q8, q9, q10⟩ | ⟨hd, q1, q2, q3, q4, q5, q6, q7, q8, q9, q10⟩ | ⟨hd, q1, q2, q3, q4, q5, q6, q7, q8, q9, q10⟩ | ⟨hd, q1, q2, q3, q4, q5, q6, q7, q8, q9, q10⟩ | ⟨hd, q1, q2, q3, q4, q5, q6, q7, q8, q9, q10⟩ | ⟨hd, q1, q2, q3, q4, q5, q6, q7, q8, q9, q10⟩ | ⟨hd, q1, q2, q3, q4, q5, q6, q7, q8, q9, q10⟩ | ⟨hd, q1, q2, q3, q4, q5, q6, q7, q8, q9, q10⟩ | ⟨hd, q1, q2, q3, q4, q5, q6, q7, q8, q9, q10⟩ | ⟨hd, q1, q2, q3, q4, q5, q6, q7, q8, q9, q10⟩
      all_goals
        have HD := hid hd
        clear hd
        go_wp2
        go_ret
        refine ⟨ret_bool ?_, hbr⟩
        first
          | exact (decide_eq_true ((words_two _).2 (.inr (of_decide_eq_true HD.out)))).symm
          | exact (decide_eq_false (fun h => ((words_two _).1 h).elim HNOT.out (of_decide_eq_false HD.out))).symm
    · intro e he_ w2 hi2 hsz2 hk2 hB2 hen
      have he : e ∈ (leftOf M seen).toList := by simpa using he_
      obtain ⟨l, hl, hval⟩ := HV.out e (mem_left he).1
      rw [hval] at hen
      have hm2 : w2.heap[w.heap.size]? = some (.map M 18) := (hk2 _ hne).trans hmm
      have hb2 := hbr.trans (hB2 _ (by omega))
      have hi3 : w2.iterSeen r = seen.push e.born := by unfold World.iterSeen; rw [hi2]
      have hi4 : wr.iterSeen r = seen := by unfold World.iterSeen; rw [hi]
      have hsh := left_shrinks M seen e he
      have hev := (mem_left he).1
      by_cases hls : (⟨l.toArray⟩ : ByteArray) = s
      · subst hls
        have hin : ((⟨l.toArray⟩ : ByteArray).data.toList ∈ wordsL) := (words_two _).2 (.inl (by simpa using hl))
        have HIN := hid hin
        clear hin hval hsh hev he he_
        go_wp2
        go_ret
        exact ⟨ret_bool (decide_eq_true HIN.out).symm, hb2.alloc (by omega) _⟩
      · have hls' : (l == s.toList) = false := by
          rw [ByteArray.toList_eq, ← mk_beq, ba_beq]
          exact decide_eq_false hls
        clear he he_
        have HL := hid hval
        have HLS := hid hls
        clear hval
        go_wp2
        refine ⟨⟨seen.push e.born, ?_, ?_, hid ?_, hb2.alloc (by omega) _⟩, ?_⟩
        · rw [Below.heap_alloc _ _ _ (by omega)]
          exact hi2
        · rw [Below.heap_alloc _ _ _ (by omega)]
          exact hm2
        · intro x hx hc
          rw [contains_push] at hc
          rcases Bool.or_eq_true_iff.1 hc with h | h
          · exact HN.out x hx h
          · have hxe : x = e := born_inj hnd hx hev (by simpa using h)
            rw [hxe, HL.out]
            intro h
            injection h with h
            exact HLS.out (by simpa using h)
        · have hal : (w2.alloc (.cells #[.string ⟨l.toArray⟩] 131)).iterSeen r = seen.push e.born := by
            unfold World.iterSeen
            rw [Below.heap_alloc _ _ _ (by omega), hi2]
          rw [hal, hi4]
          exact hsh

/-! ### names -/
theorem nmB_word {l : By} (h : l ∈ wordsL) : nmB l = true := by unfold nmB; rw [decide_eq_true h]; rfl
theorem nmB_rune {l : By} (h : ¬ l ∈ wordsL) : nmB l = runeOk l := by unfold nmB; rw [decide_eq_false h]; rfl
theorem rn_brk {l : By} (h : ¬ Brk l) (hr : rn l = 65533) : wd l ≠ 1 := fun hw => h (Prod.ext hr hw)
set_option maxHeartbeats 4000000 in
theorem name_any (s : ByteArray) (w : World) (hT : Tabs w) : Calls Tryz.prog 67 #[.string s] w fun e w' => e = .returned (.bool (nmB s.data.toList)) ∧ Below w.heap.size w w' := by
  have CW := word_any s w
  by_cases hw : s.data.toList ∈ wordsL
  · rw [decide_eq_true hw] at CW
    rw [nmB_word hw]
    go_enter Tryz.func67, Tryz.ntmps67
    go_wp2_with fail
    refine CW.mono ?_
    rintro e w1 ⟨rfl, hb1⟩
    go_wp2
    go_ret
    exact ⟨rfl, hb1⟩
  · rw [decide_eq_false hw] at CW
    rw [nmB_rune hw]
    clear hw
    have CD := fun w1 (hb : Below w.heap.size w w1) => dec_any s w1 (tabs_on hT hb)
    have hlen := ba_len s
    have hwl := wd_le s.data.toList
    have hrb := rn_brk (l := s.data.toList)
    have hkb := brk_wd (l := s.data.toList)
    have hkr := brk_rn (l := s.data.toList)
    have hrl := rn_le s.data.toList
    unfold runeOk
    unfold rnG wdG at CD
    have CX := fun w1 => Width_any (rn s.data.toList : Int) w1
    clear hT
    generalize hl : s.data.toList = l at *
    have HL := hid hl
    clear hl
    by_cases h0 : l = []
    · have hz : (s.size : Int) = 0 := by rw [h0] at hlen; simp at hlen; omega
      rw [decide_eq_false (fun h => h.1 h0)]
      simp only [if_pos h0] at CD
      clear h0 CX hwl hrb hkb hkr hrl hlen
      go_enter Tryz.func67, Tryz.ntmps67
      go_wp2_with fail
      refine CW.mono ?_
      rintro e w1 ⟨rfl, hb1⟩
      have D := CD w1 hb1
      go_wp2_with fail
      refine D.mono ?_
      rintro e w2 ⟨rfl, hb2⟩
      go_wp2
      go_ret
      exact ⟨rfl, hb1.trans (hb2.mono hb1.size)⟩
    · simp only [if_neg h0] at CD
      have hw1 := wd_pos l
      have hwz := hwl h0
      clear hwl
      have hd : decide (l ≠ [] ∧ wd l = l.length ∧ ¬ Brk l ∧ rn l ≠ 32 ∧ rn l ≠ 43 ∧ wid (rn l : Int) ≠ 0) = decide (wd l = l.length ∧ ¬ Brk l ∧ rn l ≠ 32 ∧ rn l ≠ 43 ∧ wid (rn l : Int) ≠ 0) := by
        rw [decide_eq_decide]
        exact ⟨fun h => h.2, fun h => ⟨h0, h⟩⟩
      rw [hd]
      clear hd h0
      generalize wid (rn l : Int) = wi at *
      generalize rn l = r at *
      generalize wd l = n at *
      have hn0 : ((n : Int) == 0) = false := beq_eq_false_iff_ne.2 (by omega)
      by_cases h1 : n = l.length
      · have hn1 : decide (n < s.size) = false := decide_eq_false (by omega)
        have hn2 : decide ((n : Int) < (s.size : Int)) = false := decide_eq_false (by omega)
        by_cases h2 : Brk l
        · have hr1 : (r : Int) = 65533 := by have := hkr h2; omega
          have hr2 : (n : Int) = 1 := by have := hkb h2; omega
          rw [decide_eq_false (fun h => h.2.1 h2)]
          clear hrb hkb hkr hrl CX h2
          have hr3 : ((n : Int) == 1) = true := beq_iff_eq.2 hr2
          rw [hr1] at CD
          clear hr2
          have HN := hid h1
          have HLN := hid hlen
          clear h1 hlen
          go_enter Tryz.func67, Tryz.ntmps67
          go_wp2_with fail
          refine CW.mono ?_
          rintro e w1 ⟨rfl, hb1⟩
          have D := CD w1 hb1
          go_wp2_with fail
          refine D.mono ?_
          rintro e w2 ⟨rfl, hb2⟩
          go_wp2
          go_ret
          exact ⟨rfl, hb1.trans (hb2.mono hb1.size)⟩
        · have hr2 : (r : Int) = 65533 → ¬ ((n : Int) = 1) := fun h => by have := hrb h2 (by omega); omega
          have hE : ∀ b, b = decide (r ≠ 32 ∧ r ≠ 43 ∧ wi ≠ 0) → decide (n = l.length ∧ ¬ Brk l ∧ r ≠ 32 ∧ r ≠ 43 ∧ wi ≠ 0) = b := fun b hb => by
            rw [hb, decide_eq_decide]
            exact ⟨fun h => h.2.2, fun h => ⟨h1, h2, h⟩⟩
          have HE := hid hE
          have hcase : (r = 32 ∧ (r : Int) = 32) ∨ (r = 43 ∧ (r : Int) = 43) ∨ (r ≠ 32 ∧ r ≠ 43 ∧ wi = 0) ∨ (r ≠ 32 ∧ r ≠ 43 ∧ wi ≠ 0) := by omega
          have hrd : (r = 65533 ∧ ((r : Int) == 65533) = true ∧ ((n : Int) == 1) = false) ∨ (r ≠ 65533 ∧ ((r : Int) == 65533) = false) := by
            by_cases h : r = 65533
            · exact .inl ⟨h, beq_iff_eq.2 (by omega), beq_eq_false_iff_ne.2 (hr2 (by omega))⟩
            · exact .inr ⟨h, beq_eq_false_iff_ne.2 (by omega)⟩
          clear hrb hkb hkr hrl hE hr2
          have HB := hid h2
          have HN := hid h1
          clear h1 h2
          rcases hcase with ⟨e1, e2⟩ | ⟨e1, e2⟩ | ⟨e1, e2, e3⟩ | ⟨e1, e2, e3⟩
          all_goals
            rcases hrd with ⟨f1, f2, f3⟩ | ⟨f1, f2⟩
          · omega
          · rw [HE.out false (by rw [decide_eq_false (fun h => h.1 e1)])]
            rw [e2] at CD
            clear HE CX e1 e2 f1
            go_enter Tryz.func67, Tryz.ntmps67
            go_wp2_with fail
            refine CW.mono ?_
            rintro e w1 ⟨rfl, hb1⟩
            have D := CD w1 hb1
            go_wp2_with fail
            refine D.mono ?_
            rintro e w2 ⟨rfl, hb2⟩
            go_wp2
            go_ret
            exact ⟨rfl, hb1.trans (hb2.mono hb1.size)⟩
          · omega
          · rw [HE.out false (by rw [decide_eq_false (fun h => h.2.1 e1)])]
            rw [e2] at CD
            clear HE CX e1 e2 f1
            go_enter Tryz.func67, Tryz.ntmps67
            go_wp2_with fail
            refine CW.mono ?_
            rintro e w1 ⟨rfl, hb1⟩
            have D := CD w1 hb1
            go_wp2_with fail
            refine D.mono ?_
            rintro e w2 ⟨rfl, hb2⟩
            go_wp2
            go_ret
            exact ⟨rfl, hb1.trans (hb2.mono hb1.size)⟩
          all_goals
            first
              | rw [HE.out false (by rw [decide_eq_false (fun h => h.2.2 (by omega))])]; have hwd : decide ((0 : Int) < (wi : Int)) = false := decide_eq_false (by omega); have hwe : decide (0 < wi) = false := decide_eq_false (by omega)
              | rw [HE.out true (by rw [decide_eq_true ⟨e1, e2, by omega⟩])]; have hwd : decide ((0 : Int) < (wi : Int)) = true := decide_eq_true (by omega); have hwe : decide (0 < wi) = true := decide_eq_true (by omega)
            have g1 : ((r : Int) == 32) = false := beq_eq_false_iff_ne.2 (by omega)
            have g2 : ((r : Int) == 43) = false := beq_eq_false_iff_ne.2 (by omega)
            have g3 : ((r : Int) != 32) = true := by rw [bne, g1]; rfl
            have g4 : ((r : Int) != 43) = true := by rw [bne, g2]; rfl
            clear HE
            all_goals
              clear e1 e2 e3 f1
              go_enter Tryz.func67, Tryz.ntmps67
              go_wp2_with fail
              refine CW.mono ?_
              rintro e w1 ⟨rfl, hb1⟩
              have D := CD w1 hb1
              go_wp2_with fail
              refine D.mono ?_
              rintro e w2 ⟨rfl, hb2⟩
              have hb3 := hb1.trans (hb2.mono hb1.size)
              clear hb1 hb2 D
              go_wp2_with fail
              refine (CX w2).mono ?_
              rintro e w3 ⟨rfl, hb4⟩
              go_wp2
              go_ret
              exact ⟨rfl, hb3.trans (hb4.mono hb3.size)⟩
      · have hn1 : decide ((n : Int) < (s.size : Int)) = true := decide_eq_true (by omega)
        have hn2 : decide (n < s.size) = true := decide_eq_true (by omega)
        rw [decide_eq_false (fun h => h1 h.1)]
        clear hrb hkb hkr hrl CX
        go_enter Tryz.func67, Tryz.ntmps67
        go_wp2_with fail
        refine CW.mono ?_
        rintro e w1 ⟨rfl, hb1⟩
        have D := CD w1 hb1
        go_wp2_with fail
        refine D.mono ?_
        rintro e w2 ⟨rfl, hb2⟩
        go_wp2
        go_ret
        exact ⟨rfl, hb1.trans (hb2.mono hb1.size)⟩
end Go.Proofs.YtcfgpmmclijonaaGreatDoor

/- Layer 21: the reference's words and names; whether a key may be, both sides. (Printed by gen_d.py.) -/
namespace Go.Proofs.YtcfgpmmclijonaaGreatDoor
set_option linter.unusedVariables false
set_option linter.unusedSimpArgs false
set_option maxRecDepth 100000
open Go.RowKit Go.Shelf Go.Lib
set_option maxRecDepth 100000

def strs (L : List By) : List Value := L.map fun l => .string ⟨l.toArray⟩
theorem strs_len (L : List By) : (strs L).length = L.length := by simp [strs]
theorem strs_append (L M : List By) : strs (L ++ M) = strs L ++ strs M := by simp [strs]
theorem strs_at (L : List By) (k : Nat) (h : k < L.length) : (strs L)[k]? = some (.string ⟨L[k].toArray⟩) := by simp [strs, h]
theorem strs_one (L : List By) : ∀ v ∈ strs L, v.oneCell' = true := by
  intro v h
  simp only [strs, List.mem_map] at h
  obtain ⟨a, _, rfl⟩ := h
  rfl
theorem At.st {B : Nat} {w : World} {A : Option Addr} {L : List By} (h : At B w A (strs L)) {k : Nat} (hk : k < L.length) : ∃ g o, A = some ⟨g, o, none⟩ ∧ g < B ∧ w.cell? ⟨g, o + k, none⟩ = some (.string ⟨L[k].toArray⟩) := by
  obtain ⟨g, o, hA, hg, hc⟩ := h (by rw [strs_len]; omega)
  exact ⟨g, o, hA, hg, hc _ _ (strs_at L k hk)⟩
set_option maxHeartbeats 4000000 in
theorem rwords_any (w : World) : Calls Tryz.prog 70 #[] w fun e w' => ∃ g, e = .returned (.slice (some ⟨g, 0, none⟩) 28 28) ∧ w'.heap[g]? = some (.cells #[.string { data := #[101, 110, 116, 101, 114] }, .string { data := #[116, 97, 98] }, .string { data := #[101, 115, 99, 97, 112, 101] }, .string { data := #[115, 112, 97, 99, 101] }, .string { data := #[112, 108, 117, 115] }, .string { data := #[98, 97, 99, 107, 115, 112, 97, 99, 101] }, .string { data := #[100, 101, 108, 101, 116, 101] }, .string { data := #[105, 110, 115, 101, 114, 116] }, .string { data := #[117, 112] }, .string { data := #[100, 111, 119, 110] }, .string { data := #[108, 101, 102, 116] }, .string { data := #[114, 105, 103, 104, 116] }, .string { data := #[104, 111, 109, 101] }, .string { data := #[101, 110, 100] }, .string { data := #[112, 97, 103, 101, 117, 112] }, .string { data := #[112, 97, 103, 101, 100, 111, 119, 110] }, .string { data := #[102, 49] }, .string { data := #[102, 50] }, .string { data := #[102, 51] }, .string { data := #[102, 52] }, .string { data := #[102, 53] }, .string { data := #[102, 54] }, .string { data := #[102, 55] }, .string { data := #[102, 56] }, .string { data := #[102, 57] }, .string { data := #[102, 49, 48] }, .string { data := #[102, 49, 49] }, .string { data := #[102, 49, 50] }] 9 (0, 0)) ∧ Below w.heap.size w w' := by
  go_enter Tryz.func70, Tryz.ntmps70
  go_wp2
  go_ret
  exact ⟨_, rfl, heap_alloc_new _ _, (Below.refl _ _).alloc (Nat.le_refl _) _⟩
theorem words_len : wordsL.length = 28 := by rfl
theorem words_cells : (#[.string { data := #[101, 110, 116, 101, 114] }, .string { data := #[116, 97, 98] }, .string { data := #[101, 115, 99, 97, 112, 101] }, .string { data := #[115, 112, 97, 99, 101] }, .string { data := #[112, 108, 117, 115] }, .string { data := #[98, 97, 99, 107, 115, 112, 97, 99, 101] }, .string { data := #[100, 101, 108, 101, 116, 101] }, .string { data := #[105, 110, 115, 101, 114, 116] }, .string { data := #[117, 112] }, .string { data := #[100, 111, 119, 110] }, .string { data := #[108, 101, 102, 116] }, .string { data := #[114, 105, 103, 104, 116] }, .string { data := #[104, 111, 109, 101] }, .string { data := #[101, 110, 100] }, .string { data := #[112, 97, 103, 101, 117, 112] }, .string { data := #[112, 97, 103, 101, 100, 111, 119, 110] }, .string { data := #[102, 49] }, .string { data := #[102, 50] }, .string { data := #[102, 51] }, .string { data := #[102, 52] }, .string { data := #[102, 53] }, .string { data := #[102, 54] }, .string { data := #[102, 55] }, .string { data := #[102, 56] }, .string { data := #[102, 57] }, .string { data := #[102, 49, 48] }, .string { data := #[102, 49, 49] }, .string { data := #[102, 49, 50] }] : Array Value) = (strs wordsL).toArray := by rfl
theorem rwords_at (w : World) : Calls Tryz.prog 70 #[] w fun e w' => ∃ A, e = .returned (.slice A 28 28) ∧ At w'.heap.size w' A (strs wordsL) ∧ Below w.heap.size w w' := by
  refine (rwords_any w).mono ?_
  rintro e w' ⟨g, rfl, hg, hb⟩
  exact ⟨_, rfl, At.blk hg words_cells, hb⟩
theorem valid_whole {l : By} (h0 : l ≠ []) (hw : wd l = l.length) : Lib.validD l = decide (¬ Brk l) := by
  rw [Lib.validD_step l h0]
  by_cases h : Brk l
  · rw [if_pos (by rw [show decodeL l = _ from h]; exact ⟨rfl, rfl⟩), decide_eq_false (fun x => x h)]
  · rw [if_neg (fun x => h (Prod.ext x.1 x.2)), decide_eq_true h, show (decodeL l).2 = l.length from hw, List.drop_length, Lib.validD_nil]
theorem one_ascii {l : By} (h0 : l ≠ []) (hw : wd l = l.length) (hb : ¬ Brk l) {c : UInt8} (hc : c.toNat < 128) : rn l = c.toNat ↔ l = [c] := by
  constructor
  · intro hr
    unfold Brk at hb
    unfold rn at hr
    unfold wd at hw
    rw [decodeL_eq l] at hb hr hw
    have hl : l.length = 1 ∧ (l.getD 0 0).toNat = c.toNat := by
      rcases decodeN_shape l.length (l.getD 0 0).toNat (l.getD 1 0).toNat (l.getD 2 0).toNat (l.getD 3 0).toNat with ⟨k, e⟩ | ⟨c1, c2, c3, cv, e⟩ | ⟨c1, c2, c3, c4, cv, cs, e⟩ | ⟨c1, c2, c3, c4, c5, cv, cw, e⟩ | e
      all_goals
        rw [e] at hr hw
        simp only at hr hw
      · exact ⟨hw.symm, hr⟩
      · omega
      · omega
      · omega
      · omega
    cases l with
    | nil => exact absurd rfl h0
    | cons b t =>
      have ht : t = [] := List.eq_nil_of_length_eq_zero (by have := hl.1; simp at this; simp [this])
      subst ht
      have := UInt8.toNat_inj.1 hl.2
      simp at this
      rw [this]
  · rintro rfl
    unfold rn
    rw [ascii_dec [] hc]
theorem mem_take {L : List By} {k : Nat} (hk : k < L.length) {l : By} : l ∈ L.take (k + 1) ↔ l ∈ L.take k ∨ l = L[k] := by
  rw [List.take_succ_eq_append_getElem hk, List.mem_append, List.mem_singleton]
set_option maxHeartbeats 8000000 in
theorem rname_any (s : ByteArray) (w : World) (hT : Tabs w) (hs : s.size ≤ 9223372036854775807) : Calls Tryz.prog 55 #[.string s] w fun e w' => e = .returned (.bool (nmB s.data.toList)) ∧ Below w.heap.size w w' := by
  have CW := rwords_at w
  have hlen := ba_len s
  have CD := fun w1 (hb : Below w.heap.size w w1) => dec_any s w1 (tabs_on hT hb)
  have CV := fun w1 (hb : Below w.heap.size w w1) => valid_any s w1 (tabs_on hT hb) hs
  have CX := fun w1 => rWidth_any (rnG s.data.toList : Int) w1
  have HW : s.data.toList ∈ wordsL → nmB s.data.toList = true := nmB_word
  have HR : ¬ s.data.toList ∈ wordsL → nmB s.data.toList = runeOk s.data.toList := nmB_rune
  obtain ⟨b, hb⟩ : ∃ b, nmB s.data.toList = b := ⟨_, rfl⟩
  have hfin : ¬ s.data.toList ∈ wordsL →
      (wdG s.data.toList ≠ s.data.toList.length ∧ b = false) ∨
      (wdG s.data.toList = s.data.toList.length ∧ s.data.toList.length = 0 ∧ b = false) ∨
      (wdG s.data.toList = s.data.toList.length ∧ 0 < s.data.toList.length ∧ Lib.validD s.data.toList = false ∧ b = false) ∨
      (wdG s.data.toList = s.data.toList.length ∧ 0 < s.data.toList.length ∧ Lib.validD s.data.toList = true ∧ b = (decide (wid (rnG s.data.toList : Int) ≠ 0) && (s.data.toList != [32]) && (s.data.toList != [43]))) := by
    intro hn
    have hb2 := HR hn
    rw [hb] at hb2
    generalize s.data.toList = l at *
    unfold runeOk at hb2
    by_cases h0 : l = []
    · subst h0
      right; left
      exact ⟨rfl, rfl, by rw [hb2]; rfl⟩
    · have hp : 0 < l.length := List.length_pos_iff.2 h0
      unfold wdG rnG
      simp only [if_neg h0]
      by_cases h1 : wd l = l.length
      · by_cases h2 : Brk l
        · right; right; left
          exact ⟨h1, hp, by rw [valid_whole h0 h1, decide_eq_false (fun x => x h2)], by rw [hb2, decide_eq_false (fun x => x.2.2.1 h2)]⟩
        · right; right; right
          refine ⟨h1, hp, by rw [valid_whole h0 h1, decide_eq_true h2], ?_⟩
          have e1 := one_ascii h0 h1 h2 (c := 32) (by decide)
          have e2 := one_ascii h0 h1 h2 (c := 43) (by decide)
          have f1 : (32 : UInt8).toNat = 32 := by decide
          have f2 : (43 : UInt8).toNat = 43 := by decide
          rw [f1] at e1
          rw [f2] at e2
          rw [hb2, Bool.eq_iff_iff]
          simp only [decide_eq_true_eq, Bool.and_eq_true, bne_iff_ne, ne_eq, e1, e2]
          exact ⟨fun h => ⟨⟨h.2.2.2.2.2, h.2.2.2.1⟩, h.2.2.2.2.1⟩, fun h => ⟨h0, h1, h2, h.1.2, h.2, h.1.1⟩⟩
      · left
        exact ⟨h1, by rw [hb2, decide_eq_false (fun x => h1 x.2.1)]⟩
  rw [hb]
  have HF := hid hfin
  have HW2 := hid HW
  have HB := hid hb
  have HLEN := hid hlen
  clear hfin HW HR hb hlen
  go_enter Tryz.func55, Tryz.ntmps55
  go_wp2_with fail
  refine CW.mono ?_
  rintro e w1 ⟨A, rfl, hA, hb1⟩
  have HA := hid hA
  clear hA CW
  have hs1 := hb1.size
  go_wp2
  go_loopw [4] (fun i wr => ∃ k : Nat, k ≤ 28 ∧ i = .int .i64 k ∧ Hid (¬ s.data.toList ∈ wordsL.take k) ∧ Below w1.heap.size w1 wr) (fun i _ => 28 - (RowKit.intOf i).toNat)
  case atStart => exact ⟨0, by omega, rfl, hid (by simp), Below.refl _ _⟩
  case round =>
    obtain ⟨k, hk, rfl, HN, hbr⟩ := hrel
    have hsr := hbr.size
    by_cases hlt : k < 28
    · have hli : (k : Int) < 28 := by omega
      have hkL : k < wordsL.length := by rw [words_len]; exact hlt
      obtain ⟨g, off, rfl, hg, c0⟩ := (HA.out.below hbr).st hkL
      have hmt := mem_take hkL (l := s.data.toList)
      have hmem := List.getElem_mem hkL
      obtain ⟨x, hx⟩ : ∃ x, wordsL[k]'hkL = x := ⟨_, rfl⟩
      rw [hx] at c0 hmt hmem
      have HM := hid hmt
      have HMM := hid hmem
      clear hmt hmem hx
      by_cases he : x = s.data.toList
      · have hq : (x == s.toList) = true := by rw [ByteArray.toList_eq, he]; simp
        have hbt : b = true := by rw [← HB.out]; exact HW2.out (he ▸ HMM.out)
        have HE := hid he
        clear he
        subst hbt
        go_wp2
        go_ret
        exact ⟨rfl, hb1.trans (hbr.mono hs1)⟩
      · have hq : (x == s.toList) = false := by rw [ByteArray.toList_eq]; exact beq_eq_false_iff_ne.2 he
        have HE := hid he
        clear he
        go_wp2
        go_roundw
        case rel => exact ⟨k + 1, by omega, by go_num, hid (fun h => (HM.out.1 h).elim HN.out (fun e => HE.out e.symm)), hbr⟩
        case measure => simp [RowKit.intOf]; omega
    · have hli : ¬ ((k : Int) < 28) := by omega
      have hnot : ¬ s.data.toList ∈ wordsL := by
        have := HN.out
        rwa [show k = wordsL.length by rw [words_len]; omega, List.take_length] at this
      have hB := hb1.trans (hbr.mono hs1)
      have hcase := HF.out hnot
      clear hnot HF HW2 HB HN HA
      have D := CD wr hB
      go_wp2_with fail
      refine D.mono ?_
      rintro e w2 ⟨rfl, hb2⟩
      have hB2 := hB.trans (hb2.mono hB.size)
      have V := CV w2 hB2
      clear CD CV D hb2
      have HLN := HLEN.out
      clear HLEN
      have hpin := fun w1 => CX w1
      generalize wdG s.data.toList = n at *
      generalize rnG s.data.toList = r at *
      generalize wid (r : Int) = wi at *
      generalize Lib.validD s.data.toList = v at *
      have hL1 : (s.data.toList == [32]) = (s.toList == [32]) := by rw [ByteArray.toList_eq]
      have hL2 : (s.data.toList == [43]) = (s.toList == [43]) := by rw [ByteArray.toList_eq]
      simp only [bne, hL1, hL2] at hcase
      clear hL1 hL2
      generalize s.data.toList.length = N at *
      subst HLN
      rcases hcase with ⟨h1, rfl⟩ | ⟨h1, h2, rfl⟩ | ⟨h1, h2, rfl, rfl⟩ | ⟨h1, h2, rfl, rfl⟩
      · have q1 : ((n : Int) == (s.size : Int)) = false := beq_eq_false_iff_ne.2 (by omega)
        have q2 : (n == s.size) = false := beq_eq_false_iff_ne.2 h1
        clear h1
        go_wp2
        go_ret
        exact ⟨rfl, hB2⟩
      · have q0 : (s.size : Int) = 0 := by omega
        have q2 : n = 0 := by omega
        subst q2
        clear h1 h2
        go_wp2
        go_ret
        exact ⟨rfl, hB2⟩
      · have q0 : (0 : Int) < (s.size : Int) := by omega
        have q3 : 0 < s.size := h2
        subst h1
        go_wp2_with fail
        refine V.mono ?_
        rintro e w3 ⟨rfl, hb3⟩
        go_wp2
        go_ret
        exact ⟨rfl, hB2.trans (hb3.mono hB2.size)⟩
      · have q0 : (0 : Int) < (s.size : Int) := by omega
        have q3 : 0 < s.size := h2
        subst h1
        go_wp2_with fail
        refine V.mono ?_
        rintro e w3 ⟨rfl, hb3⟩
        have hB3 := hB2.trans (hb3.mono hB2.size)
        clear hb3 V
        go_wp2_with fail
        refine (CX w3).mono ?_
        rintro e w4 ⟨rfl, hb4⟩
        have hB4 := hB3.trans (hb4.mono hB3.size)
        clear hb4 hB3
        by_cases hw0 : wi = 0
        · subst hw0
          go_wp2
          go_ret
          exact ⟨rfl, hB4⟩
        · have q5 : ((wi : Int) == 0) = false := beq_eq_false_iff_ne.2 (by omega)
          have q6 : (wi == 0) = false := beq_eq_false_iff_ne.2 hw0
          have q7 : ((wi : Int) != 0) = true := by rw [bne, q5]; rfl
          have q8 : decide (wi ≠ 0) = true := decide_eq_true hw0
          clear hw0
          rcases Bool.eq_false_or_eq_true (s.toList == [32]) with g1 | g1 <;> rcases Bool.eq_false_or_eq_true (s.toList == [43]) with g2 | g2
          all_goals
            go_wp2
            go_ret
            refine ⟨ret_bool ?_, hB4⟩
            rw [q8, g1, g2]
            try rw [q7]
            try rfl
end Go.Proofs.YtcfgpmmclijonaaGreatDoor
