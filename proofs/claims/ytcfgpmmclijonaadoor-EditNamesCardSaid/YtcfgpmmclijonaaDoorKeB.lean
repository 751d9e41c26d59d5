/- Layer 21: the two maps; words. (Printed by gen_b.py.) -/
import Derived.Test.YtcfgpmmclijonaaDoorKeA
import Derived.Test.YtcfgpmmclijonaaDoorMapRun
namespace Go.Proofs.YtcfgpmmclijonaaDoor
set_option linter.unusedVariables false
set_option linter.unusedSimpArgs false
set_option maxRecDepth 100000
open Go.RowKit Go.Shelf Go.Lib Go.MapKept
set_option maxRecDepth 100000

def numV : List (ByteArray × Value) := [({ data := #[49] }, .agg #[.string { data := #[104, 111, 109, 101] }]), ({ data := #[50] }, .agg #[.string { data := #[105, 110, 115, 101, 114, 116] }]), ({ data := #[51] }, .agg #[.string { data := #[100, 101, 108, 101, 116, 101] }]), ({ data := #[52] }, .agg #[.string { data := #[101, 110, 100] }]), ({ data := #[53] }, .agg #[.string { data := #[112, 97, 103, 101, 117, 112] }]), ({ data := #[54] }, .agg #[.string { data := #[112, 97, 103, 101, 100, 111, 119, 110] }]), ({ data := #[49, 49] }, .agg #[.string { data := #[102, 49] }]), ({ data := #[49, 50] }, .agg #[.string { data := #[102, 50] }]), ({ data := #[49, 51] }, .agg #[.string { data := #[102, 51] }]), ({ data := #[49, 52] }, .agg #[.string { data := #[102, 52] }]), ({ data := #[49, 53] }, .agg #[.string { data := #[102, 53] }]), ({ data := #[49, 55] }, .agg #[.string { data := #[102, 54] }]), ({ data := #[49, 56] }, .agg #[.string { data := #[102, 55] }]), ({ data := #[49, 57] }, .agg #[.string { data := #[102, 56] }]), ({ data := #[50, 48] }, .agg #[.string { data := #[102, 57] }]), ({ data := #[50, 49] }, .agg #[.string { data := #[102, 49, 48] }]), ({ data := #[50, 51] }, .agg #[.string { data := #[102, 49, 49] }]), ({ data := #[50, 52] }, .agg #[.string { data := #[102, 49, 50] }])]
def numE (i : Nat) : Array MapEntry := (ents 0 ((numV.map fun p => (.string p.1, p.2)).take i)).toArray
theorem num_ins0 (w : World) : (Instr.mapUpdate 110 (.map (some w.heap.size)) (.string { data := #[49] }) (.agg #[.string { data := #[104, 111, 109, 101] }])).run Tryd.prog (w.alloc (.map (numE 0) 0)) = .ok () (w.alloc (.map (numE 1) 1)) := by
  rw [run_insert_new Tryd.underlying110 Tryd.underlying9 (d := .string) (key := .string { data := #[49] }) trivial 0 _ (by kernel_rfl)]
  rw [show (numE 0).push _ = numE 1 from by kernel_rfl]
theorem num_ins1 (w : World) : (Instr.mapUpdate 110 (.map (some w.heap.size)) (.string { data := #[50] }) (.agg #[.string { data := #[105, 110, 115, 101, 114, 116] }])).run Tryd.prog (w.alloc (.map (numE 1) 1)) = .ok () (w.alloc (.map (numE 2) 2)) := by
  rw [run_insert_new Tryd.underlying110 Tryd.underlying9 (d := .string) (key := .string { data := #[50] }) trivial 1 _ (by kernel_rfl)]
  rw [show (numE 1).push _ = numE 2 from by kernel_rfl]
theorem num_ins2 (w : World) : (Instr.mapUpdate 110 (.map (some w.heap.size)) (.string { data := #[51] }) (.agg #[.string { data := #[100, 101, 108, 101, 116, 101] }])).run Tryd.prog (w.alloc (.map (numE 2) 2)) = .ok () (w.alloc (.map (numE 3) 3)) := by
  rw [run_insert_new Tryd.underlying110 Tryd.underlying9 (d := .string) (key := .string { data := #[51] }) trivial 2 _ (by kernel_rfl)]
  rw [show (numE 2).push _ = numE 3 from by kernel_rfl]
theorem num_ins3 (w : World) : (Instr.mapUpdate 110 (.map (some w.heap.size)) (.string { data := #[52] }) (.agg #[.string { data := #[101, 110, 100] }])).run Tryd.prog (w.alloc (.map (numE 3) 3)) = .ok () (w.alloc (.map (numE 4) 4)) := by
  rw [run_insert_new Tryd.underlying110 Tryd.underlying9 (d := .string) (key := .string { data := #[52] }) trivial 3 _ (by kernel_rfl)]
  rw [show (numE 3).push _ = numE 4 from by kernel_rfl]
theorem num_ins4 (w : World) : (Instr.mapUpdate 110 (.map (some w.heap.size)) (.string { data := #[53] }) (.agg #[.string { data := #[112, 97, 103, 101, 117, 112] }])).run Tryd.prog (w.alloc (.map (numE 4) 4)) = .ok () (w.alloc (.map (numE 5) 5)) := by
  rw [run_insert_new Tryd.underlying110 Tryd.underlying9 (d := .string) (key := .string { data := #[53] }) trivial 4 _ (by kernel_rfl)]
  rw [show (numE 4).push _ = numE 5 from by kernel_rfl]
theorem num_ins5 (w : World) : (Instr.mapUpdate 110 (.map (some w.heap.size)) (.string { data := #[54] }) (.agg #[.string { data := #[112, 97, 103, 101, 100, 111, 119, 110] }])).run Tryd.prog (w.alloc (.map (numE 5) 5)) = .ok () (w.alloc (.map (numE 6) 6)) := by
  rw [run_insert_new Tryd.underlying110 Tryd.underlying9 (d := .string) (key := .string { data := #[54] }) trivial 5 _ (by kernel_rfl)]
  rw [show (numE 5).push _ = numE 6 from by kernel_rfl]
theorem num_ins6 (w : World) : (Instr.mapUpdate 110 (.map (some w.heap.size)) (.string { data := #[49, 49] }) (.agg #[.string { data := #[102, 49] }])).run Tryd.prog (w.alloc (.map (numE 6) 6)) = .ok () (w.alloc (.map (numE 7) 7)) := by
  rw [run_insert_new Tryd.underlying110 Tryd.underlying9 (d := .string) (key := .string { data := #[49, 49] }) trivial 6 _ (by kernel_rfl)]
  rw [show (numE 6).push _ = numE 7 from by kernel_rfl]
theorem num_ins7 (w : World) : (Instr.mapUpdate 110 (.map (some w.heap.size)) (.string { data := #[49, 50] }) (.agg #[.string { data := #[102, 50] }])).run Tryd.prog (w.alloc (.map (numE 7) 7)) = .ok () (w.alloc (.map (numE 8) 8)) := by
  rw [run_insert_new Tryd.underlying110 Tryd.underlying9 (d := .string) (key := .string { data := #[49, 50] }) trivial 7 _ (by kernel_rfl)]
  rw [show (numE 7).push _ = numE 8 from by kernel_rfl]
theorem num_ins8 (w : World) : (Instr.mapUpdate 110 (.map (some w.heap.size)) (.string { data := #[49, 51] }) (.agg #[.string { data := #[102, 51] }])).run Tryd.prog (w.alloc (.map (numE 8) 8)) = .ok () (w.alloc (.map (numE 9) 9)) := by
  rw [run_insert_new Tryd.underlying110 Tryd.underlying9 (d := .string) (key := .string { data := #[49, 51] }) trivial 8 _ (by kernel_rfl)]
  rw [show (numE 8).push _ = numE 9 from by kernel_rfl]
theorem num_ins9 (w : World) : (Instr.mapUpdate 110 (.map (some w.heap.size)) (.string { data := #[49, 52] }) (.agg #[.string { data := #[102, 52] }])).run Tryd.prog (w.alloc (.map (numE 9) 9)) = .ok () (w.alloc (.map (numE 10) 10)) := by
  rw [run_insert_new Tryd.underlying110 Tryd.underlying9 (d := .string) (key := .string { data := #[49, 52] }) trivial 9 _ (by kernel_rfl)]
  rw [show (numE 9).push _ = numE 10 from by kernel_rfl]
theorem num_ins10 (w : World) : (Instr.mapUpdate 110 (.map (some w.heap.size)) (.string { data := #[49, 53] }) (.agg #[.string { data := #[102, 53] }])).run Tryd.prog (w.alloc (.map (numE 10) 10)) = .ok () (w.alloc (.map (numE 11) 11)) := by
  rw [run_insert_new Tryd.underlying110 Tryd.underlying9 (d := .string) (key := .string { data := #[49, 53] }) trivial 10 _ (by kernel_rfl)]
  rw [show (numE 10).push _ = numE 11 from by kernel_rfl]
theorem num_ins11 (w : World) : (Instr.mapUpdate 110 (.map (some w.heap.size)) (.string { data := #[49, 55] }) (.agg #[.string { data := #[102, 54] }])).run Tryd.prog (w.alloc (.map (numE 11) 11)) = .ok () (w.alloc (.map (numE 12) 12)) := by
  rw [run_insert_new Tryd.underlying110 Tryd.underlying9 (d := .string) (key := .string { data := #[49, 55] }) trivial 11 _ (by kernel_rfl)]
  rw [show (numE 11).push _ = numE 12 from by kernel_rfl]
theorem num_ins12 (w : World) : (Instr.mapUpdate 110 (.map (some w.heap.size)) (.string { data := #[49, 56] }) (.agg #[.string { data := #[102, 55] }])).run Tryd.prog (w.alloc (.map (numE 12) 12)) = .ok () (w.alloc (.map (numE 13) 13)) := by
  rw [run_insert_new Tryd.underlying110 Tryd.underlying9 (d := .string) (key := .string { data := #[49, 56] }) trivial 12 _ (by kernel_rfl)]
  rw [show (numE 12).push _ = numE 13 from by kernel_rfl]
theorem num_ins13 (w : World) : (Instr.mapUpdate 110 (.map (some w.heap.size)) (.string { data := #[49, 57] }) (.agg #[.string { data := #[102, 56] }])).run Tryd.prog (w.alloc (.map (numE 13) 13)) = .ok () (w.alloc (.map (numE 14) 14)) := by
  rw [run_insert_new Tryd.underlying110 Tryd.underlying9 (d := .string) (key := .string { data := #[49, 57] }) trivial 13 _ (by kernel_rfl)]
  rw [show (numE 13).push _ = numE 14 from by kernel_rfl]
theorem num_ins14 (w : World) : (Instr.mapUpdate 110 (.map (some w.heap.size)) (.string { data := #[50, 48] }) (.agg #[.string { data := #[102, 57] }])).run Tryd.prog (w.alloc (.map (numE 14) 14)) = .ok () (w.alloc (.map (numE 15) 15)) := by
  rw [run_insert_new Tryd.underlying110 Tryd.underlying9 (d := .string) (key := .string { data := #[50, 48] }) trivial 14 _ (by kernel_rfl)]
  rw [show (numE 14).push _ = numE 15 from by kernel_rfl]
theorem num_ins15 (w : World) : (Instr.mapUpdate 110 (.map (some w.heap.size)) (.string { data := #[50, 49] }) (.agg #[.string { data := #[102, 49, 48] }])).run Tryd.prog (w.alloc (.map (numE 15) 15)) = .ok () (w.alloc (.map (numE 16) 16)) := by
  rw [run_insert_new Tryd.underlying110 Tryd.underlying9 (d := .string) (key := .string { data := #[50, 49] }) trivial 15 _ (by kernel_rfl)]
  rw [show (numE 15).push _ = numE 16 from by kernel_rfl]
theorem num_ins16 (w : World) : (Instr.mapUpdate 110 (.map (some w.heap.size)) (.string { data := #[50, 51] }) (.agg #[.string { data := #[102, 49, 49] }])).run Tryd.prog (w.alloc (.map (numE 16) 16)) = .ok () (w.alloc (.map (numE 17) 17)) := by
  rw [run_insert_new Tryd.underlying110 Tryd.underlying9 (d := .string) (key := .string { data := #[50, 51] }) trivial 16 _ (by kernel_rfl)]
  rw [show (numE 16).push _ = numE 17 from by kernel_rfl]
theorem num_ins17 (w : World) : (Instr.mapUpdate 110 (.map (some w.heap.size)) (.string { data := #[50, 52] }) (.agg #[.string { data := #[102, 49, 50] }])).run Tryd.prog (w.alloc (.map (numE 17) 17)) = .ok () (w.alloc (.map (numE 18) 18)) := by
  rw [run_insert_new Tryd.underlying110 Tryd.underlying9 (d := .string) (key := .string { data := #[50, 52] }) trivial 17 _ (by kernel_rfl)]
  rw [show (numE 17).push _ = numE 18 from by kernel_rfl]
set_option maxHeartbeats 4000000 in
theorem numbered_any (w : World) : Calls Tryd.prog 71 #[] w fun e w' => e = .returned (.map (some w.heap.size)) ∧ w'.heap[w.heap.size]? = some (.map (numE 18) 18) ∧ Below w.heap.size w w' := by
  have hmm := @run_makeMap Tryd.prog
  have i0 := num_ins0 w
  have i1 := num_ins1 w
  have i2 := num_ins2 w
  have i3 := num_ins3 w
  have i4 := num_ins4 w
  have i5 := num_ins5 w
  have i6 := num_ins6 w
  have i7 := num_ins7 w
  have i8 := num_ins8 w
  have i9 := num_ins9 w
  have i10 := num_ins10 w
  have i11 := num_ins11 w
  have i12 := num_ins12 w
  have i13 := num_ins13 w
  have i14 := num_ins14 w
  have i15 := num_ins15 w
  have i16 := num_ins16 w
  have i17 := num_ins17 w
  obtain ⟨m, hm⟩ : ∃ m, m = numE := ⟨_, rfl⟩
  have h00 : (#[] : Array MapEntry) = m 0 := by rw [hm]; rfl
  rw [← hm] at i0 i1 i2 i3 i4 i5 i6 i7 i8 i9 i10 i11 i12 i13 i14 i15 i16 i17
  rw [← hm]
  clear hm
  have q0 := i0
  rw [← h00] at q0
  go_enter Tryd.func71, Tryd.ntmps71
  go_wp2
  go_ret
  exact ⟨rfl, World.alloc_heap_new _ _, (Below.refl _ _).alloc (Nat.le_refl _) _⟩
def arrV : List (Int × Value) := [(65, .agg #[.string { data := #[117, 112] }]), (66, .agg #[.string { data := #[100, 111, 119, 110] }]), (67, .agg #[.string { data := #[114, 105, 103, 104, 116] }]), (68, .agg #[.string { data := #[108, 101, 102, 116] }]), (72, .agg #[.string { data := #[104, 111, 109, 101] }]), (70, .agg #[.string { data := #[101, 110, 100] }])]
def arrE (i : Nat) : Array MapEntry := (ents 0 ((arrV.map fun p => (.int .u8 p.1, p.2)).take i)).toArray
end Go.Proofs.YtcfgpmmclijonaaDoor
