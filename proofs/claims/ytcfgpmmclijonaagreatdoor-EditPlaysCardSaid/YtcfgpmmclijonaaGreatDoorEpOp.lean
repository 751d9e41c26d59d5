/- Layer 25: how texts and numbers come in; the library's variables, from the row's list; the witness' world (the great seat's order). -/
import Derived.Test.YtcfgpmmclijonaaGreatDoorEdGh
import Derived.Test.YtcfgpmmclijonaaGreatDoorRows
import Derived.PinnedBridge
import Derived.Lib.LaidIn
import Derived.Lib.LaidU8T
import Derived.Lib.LaidRTab
import Derived.Lib.LaidTab
import Derived.ProofKit
import Derived.Test.YtcfgpmmclijonaaGreatDoorEdBd
import Derived.OpenShut
import Derived.ChangeOld
import Derived.Carry
import Derived.Deep.Strs
import Derived.ChangeMaps5
namespace Go.Proofs.YtcfgpmmclijonaaGreatDoor
set_option linter.unusedVariables false
set_option linter.unusedSimpArgs false
set_option maxRecDepth 100000
open Go.ChangeShapes Go.WideShapes Go.ChangeAt Go.RowKit Go.Lib Go.Shelf

theorem own : ownKnob Tryz.prog.godebug = none := by kernel_rfl
theorem laidOut : laidOutB Tryz.prog = true := by kernel_rfl
section
variable {H : Type} {enc : TypeId × Value → H} {W : World} {base b0 : Nat} {spare : Nat → Bool} {held : Bool} {v : Value} {d : DataW H} {p : List MemPlace} {r : Reach}
theorem open_text (hv : Value.okWide Tryz.prog W r b0 9 v) (h : DataW.Trod enc Tryz.prog W base spare held 9 v d p) : ∃ s : ByteArray, v = .string s ∧ s.size ≤ 9223372036854775807 := by
  obtain ⟨s, rfl, _, _, hs⟩ := Go.ChangeMaps.open_string Tryz.underlying9 hv h
  exact ⟨s, rfl, by unfold maxLen at hs; omega⟩
theorem open_num (hv : Value.okWide Tryz.prog W r b0 3 v) (h : DataW.Trod enc Tryz.prog W base spare held 3 v d p) : ∃ a : Int, v = .int .i64 a ∧ -9223372036854775808 ≤ a ∧ a ≤ 9223372036854775807 := by
  obtain ⟨a, rfl, _, _, wa⟩ := open_int Tryz.underlying3 hv h
  have hb : -9223372036854775808 ≤ a ∧ a ≤ 9223372036854775807 := by simpa [Lit.wf, IntKind.min, IntKind.max, IntKind.signed, IntKind.bits] using wa
  exact ⟨a, rfl, hb⟩
end
/-- The row's list. -/
def laidL : List (String × DataW Unit) := [("unicode/utf8.acceptRanges", Lib.acceptData), ("unicode.properties", Lib.tabData .u8 Lib.propertiesTab), ("unicode.Digit", Lib.rtabData digitT), ("unicode.Letter", Lib.rtabData letterT), ("unicode/utf8.first", Lib.firstData)]
theorem tabIs_of_reads {P : Program} {W : World} {name : String} {k : IntKind} {zs : List Int} {g : Nat} {t e : TypeId} {n : Nat}
    (hg : P.globalNamed name = some g) (hty : (P.globals[g]?).map (·.type) = some t) (ht : P.underlying t = some (.array n e)) (he : P.underlying e = some (.int k)) (hce : P.cellsOf e = 1) (hct : P.cellsOf t = n)
    (h : VarReads P W name (tabData k zs)) : TabIs P W name k zs := by
  obtain ⟨g', t', cs, fuel, p, hg', ht', hvar, hd⟩ := h
  obtain rfl := Option.some.inj (hg.symm.trans hg')
  obtain rfl := Option.some.inj (hty.symm.trans ht')
  unfold TabIs
  rw [hvar, ← cells_of_tab ht he hce hct hd]
theorem xL : RExtra Tryz.prog Tryz.laysLetter_ren := ⟨by kernel_rfl, by kernel_rfl, by kernel_rfl, by kernel_rfl, by kernel_rfl, by kernel_rfl, by kernel_rfl, by kernel_rfl⟩
theorem xD : RExtra Tryz.prog Tryz.laysDigit_ren := ⟨by kernel_rfl, by kernel_rfl, by kernel_rfl, by kernel_rfl, by kernel_rfl, by kernel_rfl, by kernel_rfl, by kernel_rfl⟩
theorem tabs_of_laid {W : World} (hL : laidMetH Tryz.prog laidL W) (hsh : W.ShapedOpen Tryz.prog) : Tabs W := by
  refine ⟨utf8Tabs_of_readsT (ρ := Tryz.laysDec_ren) ⟨by kernel_rfl, by kernel_rfl, by kernel_rfl, by kernel_rfl⟩ ⟨by kernel_rfl, by kernel_rfl, by kernel_rfl, by kernel_rfl, by kernel_rfl, by kernel_rfl, by kernel_rfl⟩ (Lib.laidMet.reads hL (.tail _ (.tail _ (.tail _ (.tail _ (.head _)))))) (Lib.laidMet.reads hL (.head _)), ?_, ?_, ?_⟩
  · exact tabIs_of_reads (g := 3) (t := 118) (e := 5) (n := 256) (by kernel_rfl) (by kernel_rfl) (by kernel_rfl) (by kernel_rfl) (by kernel_rfl) (by kernel_rfl) (Lib.laidMet.reads hL (.tail _ (.head _)))
  · exact rvar_of_reads { Tryz.laysLetter with } xL (by kernel_rfl) (by kernel_rfl) (Lib.laidMet.reads hL (.tail _ (.tail _ (.tail _ (.head _)))))
  · exact rvar_of_reads { Tryz.laysDigit with } xD (by kernel_rfl) (by kernel_rfl) (Lib.laidMet.reads hL (.tail _ (.tail _ (.head _))))
noncomputable abbrev N0 : Nat := (World.settled Tryz.prog default).heap.size
/-- The witness' world: the settled one with six blocks more, the five variables holding what their initialisers lay. -/
noncomputable def laidWorld (os : Os) : World :=
  let N := (World.settled Tryz.prog os).heap.size
  let ρ := Tryz.laysLetter_ren
  let w0 := World.holding Tryz.prog os ⟨#[
    .cells (rgCells .u16 letterT.r16) (ρ.t 198), .cells (rgCells .u32 letterT.r32) (ρ.t 201),
    .cells #[.slice (some ⟨N, 0, none⟩) letterT.r16.size letterT.r16.size, .slice (some ⟨N + 1, 0, none⟩) letterT.r32.size letterT.r32.size, .int .i64 letterT.off] (ρ.t 196),
    .cells (rgCells .u16 digitT.r16) (ρ.t 198), .cells (rgCells .u32 digitT.r32) (ρ.t 201),
    .cells #[.slice (some ⟨N + 3, 0, none⟩) digitT.r16.size digitT.r16.size, .slice (some ⟨N + 4, 0, none⟩) digitT.r32.size digitT.r32.size, .int .i64 digitT.off] (ρ.t 196)], #[], []⟩
  let put (h : Array Obj) (g : Nat) (cs : Array Value) : Array Obj := h.modify g fun
    | .cells _ t frozen => .cells cs t frozen
    | o => o
  let h1 := put w0.heap 0 (Lib.firstTab.map fun z => Value.int .u8 z).toArray
  let h2 := put h1 1 ((List.range 16).flatMap fun i => [Value.int .u8 (Lib.accLo i), Value.int .u8 (Lib.accHi i)]).toArray
  let h3 := put h2 3 (Lib.propertiesTab.map fun z => Value.int .u8 z).toArray
  let h4 := put h3 4 #[.pointer (some ⟨N + 2, 0, none⟩)]
  let h5 := put h4 5 #[.pointer (some ⟨N + 5, 0, none⟩)]
  { w0 with heap := h5 }
theorem piece0 (os : Os) (args : Array Value) : LaidIn Tryz.prog ((laidWorld os).forCall (fun _ _ => 0) ⟨#[], args, []⟩).memory [("unicode/utf8.acceptRanges", Lib.acceptData)] [1] :=
  LaidIn.of_run [1] 8 (by kernel_rfl) (by kernel_rfl) (by kernel_rfl) (by kernel_rfl)
theorem piece1 (os : Os) (args : Array Value) : LaidIn Tryz.prog ((laidWorld os).forCall (fun _ _ => 0) ⟨#[], args, []⟩).memory [("unicode.properties", Lib.tabData .u8 Lib.propertiesTab)] [3] :=
  LaidIn.of_run [3] 8 (by kernel_rfl) (by kernel_rfl) (by kernel_rfl) (by kernel_rfl)
theorem piece2 (os : Os) (args : Array Value) : LaidIn Tryz.prog ((laidWorld os).forCall (fun _ _ => 0) ⟨#[], args, []⟩).memory [("unicode.Digit", Lib.rtabData digitT)] [5, N0 + 5, N0 + 3, N0 + 4] :=
  laidIn_rtab (ρ := Tryz.laysDigit_ren) { Tryz.laysDigit with } xD (by kernel_rfl) (by kernel_rfl) digitT (N0 + 5) (N0 + 3) (N0 + 4) (Tryz.laysDigit_ren.t 198) (Tryz.laysDigit_ren.t 201)
    (by kernel_rfl) (by kernel_rfl) (by kernel_rfl) (by kernel_rfl) (by kernel_rfl) (of_decide_eq_true (by kernel_rfl)) (of_decide_eq_true (by kernel_rfl)) (of_decide_eq_true (by kernel_rfl))
theorem piece3 (os : Os) (args : Array Value) : LaidIn Tryz.prog ((laidWorld os).forCall (fun _ _ => 0) ⟨#[], args, []⟩).memory [("unicode.Letter", Lib.rtabData letterT)] [4, N0 + 2, N0, N0 + 1] :=
  laidIn_rtab (ρ := Tryz.laysLetter_ren) { Tryz.laysLetter with } xL (by kernel_rfl) (by kernel_rfl) letterT (N0 + 2) N0 (N0 + 1) (Tryz.laysLetter_ren.t 198) (Tryz.laysLetter_ren.t 201)
    (by kernel_rfl) (by kernel_rfl) (by kernel_rfl) (by kernel_rfl) (by kernel_rfl) (of_decide_eq_true (by kernel_rfl)) (of_decide_eq_true (by kernel_rfl)) (of_decide_eq_true (by kernel_rfl))
theorem piece4 (os : Os) (args : Array Value) : LaidIn Tryz.prog ((laidWorld os).forCall (fun _ _ => 0) ⟨#[], args, []⟩).memory [("unicode/utf8.first", Lib.firstData)] [0] :=
  LaidIn.of_run [0] 8 (by kernel_rfl) (by kernel_rfl) (by kernel_rfl) (by kernel_rfl)
theorem laid_metL (os : Os) (args : Array Value) : laidMet Tryz.prog laidL ((laidWorld os).forCall (fun _ _ => 0) ⟨#[], args, []⟩).memory :=
  (((((piece0 os args).append (piece1 os args) (by kernel_rfl)).append (piece2 os args) (by kernel_rfl)).append (piece3 os args) (by kernel_rfl)).append (piece4 os args) (by kernel_rfl)).met
end Go.Proofs.YtcfgpmmclijonaaGreatDoor

/- Layer 25: how a row of ops comes in. -/
namespace Go.Proofs.YtcfgpmmclijonaaGreatDoor
set_option linter.unusedVariables false
set_option linter.unusedSimpArgs false
set_option maxRecDepth 100000
open Go.ChangeShapes Go.WideShapes Go.ChangeAt Go.RowKit Go.Lib Go.Shelf

theorem cells_u8 : Tryz.prog.cellsOf 5 = 1 := by kernel_rfl
theorem cells_string : Tryz.prog.cellsOf 9 = 1 := by kernel_rfl
theorem cells_int : Tryz.prog.cellsOf 3 = 1 := by kernel_rfl
theorem cells_bool : Tryz.prog.cellsOf 4 = 1 := by kernel_rfl
theorem cells_key : Tryz.prog.cellsOf 32 = 2 := by kernel_rfl
theorem cells_op : Tryz.prog.cellsOf 34 = 6 := by kernel_rfl
theorem add_none {g o : Nat} (i : Nat) : (⟨g, o, none⟩ : Addr).add i = ⟨g, o + i, none⟩ := by
  unfold Addr.add
  split
  · rename_i h
    simp [h]
  · rfl
theorem add_add {a : Addr} {i j : Nat} (h : a = ⟨a.block, a.off, none⟩) : (a.add i).add j = a.add (i + j) := by
  rw [h, add_none, add_none, add_none, Nat.add_assoc]
theorem cell_spot {w : World} {a : Addr} {v : Value} (h : w.cell? a = some v) : a = ⟨a.block, a.off, none⟩ := by
  obtain ⟨g, o, s⟩ := a
  cases s with
  | none => rfl
  | some s =>
    unfold World.cell? at h
    split at h
    · simp at h
    · cases h
theorem At.of_opr {B : Nat} {w : World} {g o : Nat} {L : List Opr} (hg : g < B) (h : ∀ k, (hk : k < L.length) → w.cell? ⟨g, o + k * 6, none⟩ = some (.int .i64 L[k].d) ∧ w.cell? ⟨g, o + k * 6 + 1, none⟩ = some (.string L[k].s) ∧ w.cell? ⟨g, o + k * 6 + 2, none⟩ = some (.string L[k].nm) ∧
    w.cell? ⟨g, o + k * 6 + 3, none⟩ = some (.int .u8 (L[k].md : Int)) ∧ w.cell? ⟨g, o + k * 6 + 4, none⟩ = some (.int .i64 L[k].n) ∧ w.cell? ⟨g, o + k * 6 + 5, none⟩ = some (.bool L[k].keep)) : At B w (some ⟨g, o, none⟩) (oprs L) := by
  intro _
  refine ⟨g, o, rfl, hg, fun j v hj => ?_⟩
  have hj' : j < L.length * 6 := by
    rw [← oprs_len]
    exact (List.getElem?_eq_some_iff.1 hj).1
  have hkl : j / 6 < L.length := by omega
  obtain ⟨k0, k1, k2, k3, k4, k5⟩ := oprs_at L (j / 6) hkl
  obtain ⟨h0, h1, h2, h3, h4, h5⟩ := h (j / 6) hkl
  have hc : j % 6 = 0 ∨ j % 6 = 1 ∨ j % 6 = 2 ∨ j % 6 = 3 ∨ j % 6 = 4 ∨ j % 6 = 5 := by omega
  rcases hc with hm | hm | hm | hm | hm | hm
  · have e : j = j / 6 * 6 := by omega
    rw [e] at hj ⊢
    rw [k0] at hj
    rw [← hj]
    exact h0
  · have e : j = j / 6 * 6 + 1 := by omega
    rw [e] at hj ⊢
    rw [k1] at hj
    rw [← hj, ← Nat.add_assoc]
    exact h1
  · have e : j = j / 6 * 6 + 2 := by omega
    rw [e] at hj ⊢
    rw [k2] at hj
    rw [← hj, ← Nat.add_assoc]
    exact h2
  · have e : j = j / 6 * 6 + 3 := by omega
    rw [e] at hj ⊢
    rw [k3] at hj
    rw [← hj, ← Nat.add_assoc]
    exact h3
  · have e : j = j / 6 * 6 + 4 := by omega
    rw [e] at hj ⊢
    rw [k4] at hj
    rw [← hj, ← Nat.add_assoc]
    exact h4
  · have e : j = j / 6 * 6 + 5 := by omega
    rw [e] at hj ⊢
    rw [k5] at hj
    rw [← hj, ← Nat.add_assoc]
    exact h5
section
variable {H : Type} {enc : TypeId × Value → H} {W : World} {base b0 : Nat} {spare : Nat → Bool} {held : Bool} {r : Reach} {v : Value} {d : DataW H} {p : List MemPlace}
theorem u8_of {n : Nat} {c : Value} {x : DataW H × List MemPlace} (h : DataW.trod enc Tryz.prog W base spare held n 5 [c] = some x) : ∃ a : Nat, c = .int .u8 (a : Int) ∧ a < 256 := by
  obtain ⟨a, ea, _, wa⟩ := DataW.trod_int Tryz.underlying5 h
  simp at ea
  have hb : 0 ≤ a ∧ a ≤ 255 := by simpa [Lit.wf, IntKind.min, IntKind.max, IntKind.signed, IntKind.bits] using wa
  obtain ⟨m, rfl⟩ := Int.eq_ofNat_of_zero_le hb.1
  exact ⟨m, ea, by omega⟩
theorem int_of {n : Nat} {c : Value} {x : DataW H × List MemPlace} (h : DataW.trod enc Tryz.prog W base spare held n 3 [c] = some x) : ∃ a : Int, c = .int .i64 a := by
  obtain ⟨a, ea, _, wa⟩ := DataW.trod_int Tryz.underlying3 h
  simp at ea
  exact ⟨a, ea⟩
theorem bool_of {n : Nat} {c : Value} {x : DataW H × List MemPlace} (h : DataW.trod enc Tryz.prog W base spare held n 4 [c] = some x) : ∃ a : Bool, c = .bool a := by
  obtain ⟨a, ea, _⟩ := DataW.trod_bool Tryz.underlying4 h
  simp at ea
  exact ⟨a, ea⟩
theorem str_of {n : Nat} {c : Value} {x : DataW H × List MemPlace} (h : DataW.trod enc Tryz.prog W base spare held n 9 [c] = some x) : ∃ s : ByteArray, c = .string s ∧ s.size ≤ 9223372036854775807 := by
  obtain ⟨s, ea, _, hs⟩ := DataW.trod_string Tryz.underlying9 h
  simp at ea
  exact ⟨s, ea, by unfold maxLen at hs; omega⟩
theorem key_of {n : Nat} {c0 c1 : Value} {x : DataW H × List MemPlace} (h : DataW.trod enc Tryz.prog W base spare held n 32 [c0, c1] = some x) : ∃ (s : ByteArray) (m : Nat), c0 = .string s ∧ c1 = .int .u8 (m : Int) ∧ s.size ≤ 9223372036854775807 := by
  obtain ⟨xs, n, _, _, _, hlen, hF⟩ := DataW.trod_struct Tryz.underlying32 h
  match xs, hlen with
  | [y0, y1], _ =>
    have h0 := hF 0 _ rfl
    have h1 := hF 1 _ rfl
    simp [cells_u8, cells_string] at h0 h1
    obtain ⟨s, rfl, hs⟩ := str_of h0
    obtain ⟨a, rfl, _⟩ := u8_of h1
    exact ⟨s, a, rfl, rfl, hs⟩
theorem op_of {n : Nat} {c0 c1 c2 c3 c4 c5 : Value} {x : DataW H × List MemPlace} (h : DataW.trod enc Tryz.prog W base spare held n 34 [c0, c1, c2, c3, c4, c5] = some x) : ∃ o : Opr, c0 = .int .i64 o.d ∧ c1 = .string o.s ∧ c2 = .string o.nm ∧ c3 = .int .u8 (o.md : Int) ∧ c4 = .int .i64 o.n ∧ c5 = .bool o.keep ∧ o.nm.size ≤ 9223372036854775807 := by
  obtain ⟨xs, n, _, _, _, hlen, hF⟩ := DataW.trod_struct Tryz.underlying34 h
  match xs, hlen with
  | [y0, y1, y2, y3, y4], _ =>
    have h0 := hF 0 _ rfl
    have h1 := hF 1 _ rfl
    have h2 := hF 2 _ rfl
    have h3 := hF 3 _ rfl
    have h4 := hF 4 _ rfl
    simp [cells_u8, cells_string, cells_key, cells_int, cells_bool] at h0 h1 h2 h3 h4
    obtain ⟨d, rfl⟩ := int_of h0
    obtain ⟨s, rfl, _⟩ := str_of h1
    obtain ⟨nm, md, rfl, rfl, hnm⟩ := key_of h2
    obtain ⟨n, rfl⟩ := int_of h3
    obtain ⟨b, rfl⟩ := bool_of h4
    exact ⟨⟨d, s, nm, md, n, b⟩, rfl, rfl, rfl, rfl, rfl, rfl, hnm⟩
theorem open_ops (hv : Value.okWide Tryz.prog W r b0 22 v) (h : DataW.Trod enc Tryz.prog W base spare held 22 v d p) :
    ∃ (A : Option Addr) (c : Nat) (L : List Opr), v = .slice A L.length c ∧ At W.heap.size W A (oprs L) ∧ ∀ o ∈ L, o.nm.size ≤ 9223372036854775807 := by
  obtain ⟨a0, len, cap, rfl⟩ := okWide_slice Tryz.underlying22 hv
  obtain ⟨fuel, hf⟩ := h
  rcases Go.Deep.open_slice Tryz.underlying22 hf with ⟨hc, _⟩ | ⟨a, len', cap', m, n, D, Pl, hc, _, hle, hcap, hm, hdt, hel⟩
  · simp [Value.cells] at hc
    obtain ⟨rfl, rfl, rfl⟩ := hc
    exact ⟨none, 0, [], rfl, (fun h => by simp [oprs] at h), fun o h => by cases h⟩
  · simp [Value.cells] at hc
    obtain ⟨rfl, rfl, rfl⟩ := hc
    rw [cells_op] at hel
    have hlm : len ≤ m := by
      rw [hm]
      split <;> omega
    have hall : ∀ i, i < len → ∃ t : Opr, W.cell? (a.add (i * 6)) = some (.int .i64 t.d) ∧ W.cell? ((a.add (i * 6)).add 1) = some (.string t.s) ∧ W.cell? ((a.add (i * 6)).add 2) = some (.string t.nm) ∧ W.cell? ((a.add (i * 6)).add 3) = some (.int .u8 (t.md : Int)) ∧
        W.cell? ((a.add (i * 6)).add 4) = some (.int .i64 t.n) ∧ W.cell? ((a.add (i * 6)).add 5) = some (.bool t.keep) ∧ t.nm.size ≤ 9223372036854775807 := fun i hi => by
      obtain ⟨cs, h1, h2⟩ := hel i (by omega)
      obtain ⟨_, hl, hc⟩ := World.cells?_some h1
      match cs, hl with
      | [c0, c1, c2, c3, c4, c5], _ =>
        obtain ⟨o, rfl, rfl, rfl, rfl, rfl, rfl, hnm⟩ := op_of h2
        exact ⟨o, by simpa [Addr.add] using hc 0 (by omega), by simpa using hc 1 (by omega), by simpa using hc 2 (by omega), by simpa using hc 3 (by omega), by simpa using hc 4 (by omega), by simpa using hc 5 (by omega), hnm⟩
    have : Inhabited Opr := ⟨⟨0, ⟨#[]⟩, ⟨#[]⟩, 0, 0, false⟩⟩
    obtain ⟨f, hf⟩ := Go.Deep.choose_lt hall
    refine ⟨some a, cap, (List.range len).map f, by simp, ?_, fun o ho => by
      obtain ⟨i, hi, rfl⟩ := List.mem_map.1 ho
      exact (hf i (List.mem_range.1 hi)).2.2.2.2.2.2⟩
    intro hpos
    have hlen : 0 < len := by
      rw [oprs_len, List.length_map, List.length_range] at hpos
      omega
    have h0 := (hf 0 hlen).1
    have ha : a = ⟨a.block, a.off, none⟩ := by
      have := cell_spot h0
      simpa [Addr.add] using this
    generalize a.block = g, a.off = o at ha
    subst ha
    refine At.of_opr (World.block_lt_of_cell? _ _ (by simpa [Addr.add] using h0)) (fun k hk => ?_) hpos
    have hk' : k < len := by simpa using hk
    have := hf k hk'
    have := And.intro this.1 (And.intro this.2.1 (And.intro this.2.2.1 (And.intro this.2.2.2.1 (And.intro this.2.2.2.2.1 this.2.2.2.2.2.1))))
    simp only [add_none] at this
    simpa using this
end
end Go.Proofs.YtcfgpmmclijonaaGreatDoor
