/- Layer 21: whether a key may be; modifiers; a key's text, read; both sides. -/
import Derived.Test.YtcfgpmmclijonaaGreatDoorKeX
import Derived.Test.YtcfgpmmclijonaaGreatDoorMonoV
import Derived.Laws.Concat
namespace Go.Proofs.YtcfgpmmclijonaaGreatDoor
set_option linter.unusedVariables false
set_option linter.unusedSimpArgs false
set_option maxRecDepth 100000
open Go.RowKit Go.Shelf Go.Lib
set_option maxRecDepth 100000
set_option maxHeartbeats 4000000

def kyV (k : Ky) : Value := .agg #[.string ⟨k.nm.toArray⟩, .int .u8 (k.md : Int)]
theorem may_any (nm : ByteArray) (md : Nat) (w : World) (hT : Tabs w) : Calls Tryz.prog 50 #[.agg #[.string nm, .int .u8 (md : Int)]] w fun e w' => e = .returned (.bool (mayB ⟨nm.data.toList, md⟩)) ∧ Below w.heap.size w w' := by
  have HA := (Below.refl w.heap.size w).alloc (Nat.le_refl _) (.cells #[.string nm, .int .u8 (md : Int)] 32)
  have CN := name_any nm (w.alloc (.cells #[.string nm, .int .u8 (md : Int)] 32)) (tabs_on hT HA)
  have hE : mayB ⟨nm.data.toList, md⟩ = (decide (md ≤ 7) && nmB nm.data.toList) := rfl
  rw [hE]
  clear hE
  generalize nmB nm.data.toList = b at *
  by_cases h : md ≤ 7
  · have h1 : (md : Int) ≤ 7 := by omega
    have h2 : decide ((md : Int) ≤ 7) = true := decide_eq_true h1
    rw [decide_eq_true h]
    go_enter Tryz.func50, Tryz.ntmps50
    go_wp2_with fail
    refine CN.mono ?_
    rintro e w1 ⟨rfl, hb⟩
    go_wp2
    go_ret
    exact ⟨rfl, HA.trans (hb.mono HA.size)⟩
  · have h1 : ¬ ((md : Int) ≤ 7) := by omega
    have h2 : decide ((md : Int) ≤ 7) = false := decide_eq_false h1
    rw [decide_eq_false h]
    go_enter Tryz.func50, Tryz.ntmps50
    go_wp2
    go_ret
    exact ⟨rfl, HA⟩
theorem rmay_any (nm : ByteArray) (md : Nat) (w : World) (hT : Tabs w) (hs : nm.size ≤ 9223372036854775807) : Calls Tryz.prog 34 #[.agg #[.string nm, .int .u8 (md : Int)]] w fun e w' => e = .returned (.bool (mayB ⟨nm.data.toList, md⟩)) ∧ Below w.heap.size w w' := by
  have HA := (Below.refl w.heap.size w).alloc (Nat.le_refl _) (.cells #[.string nm, .int .u8 (md : Int)] 32)
  have CN := rname_any nm (w.alloc (.cells #[.string nm, .int .u8 (md : Int)] 32)) (tabs_on hT HA) hs
  have hE : mayB ⟨nm.data.toList, md⟩ = (decide (md ≤ 7) && nmB nm.data.toList) := rfl
  rw [hE]
  clear hE
  generalize nmB nm.data.toList = b at *
  by_cases h : md ≤ 7
  · have h1 : (md : Int) ≤ 7 := by omega
    have h2 : decide ((md : Int) ≤ 7) = true := decide_eq_true h1
    rw [decide_eq_true h]
    go_enter Tryz.func34, Tryz.ntmps34
    go_wp2_with fail
    refine CN.mono ?_
    rintro e w1 ⟨rfl, hb⟩
    go_wp2
    go_ret
    exact ⟨rfl, HA.trans (hb.mono HA.size)⟩
  · have h1 : ¬ ((md : Int) ≤ 7) := by omega
    have h2 : decide ((md : Int) ≤ 7) = false := decide_eq_false h1
    rw [decide_eq_false h]
    go_enter Tryz.func34, Tryz.ntmps34
    go_wp2
    go_ret
    exact ⟨rfl, HA⟩

/-! ### modifiers -/
theorem pre_one (l : By) : (Lib.hasPrefix l ctrlL = true ∧ Lib.hasPrefix l altL = false ∧ Lib.hasPrefix l shiftL = false) ∨ (Lib.hasPrefix l ctrlL = false ∧ Lib.hasPrefix l altL = true ∧ Lib.hasPrefix l shiftL = false) ∨
    (Lib.hasPrefix l ctrlL = false ∧ Lib.hasPrefix l altL = false ∧ Lib.hasPrefix l shiftL = true) ∨ (Lib.hasPrefix l ctrlL = false ∧ Lib.hasPrefix l altL = false ∧ Lib.hasPrefix l shiftL = false) := by
  unfold Lib.hasPrefix ctrlL altL shiftL
  cases l with
  | nil => decide
  | cons b t =>
    simp only [List.isPrefixOf]
    by_cases h1 : b = 99
    · subst h1
      generalize List.isPrefixOf [116, 114, 108, 43] t = p1
      generalize List.isPrefixOf [108, 116, 43] t = p2
      generalize List.isPrefixOf [104, 105, 102, 116, 43] t = p3
      revert p1 p2 p3
      decide
    · by_cases h2 : b = 97
      · subst h2
        generalize List.isPrefixOf [116, 114, 108, 43] t = p1
        generalize List.isPrefixOf [108, 116, 43] t = p2
        generalize List.isPrefixOf [104, 105, 102, 116, 43] t = p3
        revert p1 p2 p3
        decide
      · by_cases h3 : b = 115
        · subst h3
          generalize List.isPrefixOf [116, 114, 108, 43] t = p1
          generalize List.isPrefixOf [108, 116, 43] t = p2
          generalize List.isPrefixOf [104, 105, 102, 116, 43] t = p3
          revert p1 p2 p3
          decide
        · have e1 : ((99 : UInt8) == b) = false := beq_eq_false_iff_ne.2 (Ne.symm h1)
          have e2 : ((97 : UInt8) == b) = false := beq_eq_false_iff_ne.2 (Ne.symm h2)
          have e3 : ((115 : UInt8) == b) = false := beq_eq_false_iff_ne.2 (Ne.symm h3)
          simp [e1, e2, e3]
theorem modL_eq (l : By) : modL l = if Lib.hasPrefix l ctrlL then (2, 5) else if Lib.hasPrefix l altL then (4, 4) else if Lib.hasPrefix l shiftL then (1, 6) else (0, 0) := rfl
def modR (l : By) : By := l.drop (modL l).2
end Go.Proofs.YtcfgpmmclijonaaGreatDoor

/- Layer 21: a key's text, read, both sides. -/
namespace Go.Proofs.YtcfgpmmclijonaaGreatDoor
set_option linter.unusedVariables false
set_option linter.unusedSimpArgs false
set_option maxRecDepth 100000
open Go.RowKit Go.Shelf Go.Lib
set_option maxRecDepth 100000
set_option maxHeartbeats 4000000

theorem modL_cases (l : By) : ((modL l).1 = 0 ∧ (modL l).2 = 0) ∨ (((modL l).1 = 1 ∨ (modL l).1 = 2 ∨ (modL l).1 = 4) ∧ 4 ≤ (modL l).2 ∧ (modL l).2 ≤ l.length) := by
  rw [modL_eq]
  split
  · next h => right; exact ⟨.inr (.inl rfl), by simp, (List.isPrefixOf_iff_prefix.1 h).length_le⟩
  · split
    · next h => right; exact ⟨.inr (.inr rfl), by simp, (List.isPrefixOf_iff_prefix.1 h).length_le⟩
    · split
      · next h => right; exact ⟨.inl rfl, by simp, (List.isPrefixOf_iff_prefix.1 h).length_le⟩
      · left; exact ⟨rfl, rfl⟩
theorem parseG_at (f md at_ : Nat) (l : By) : parseG (f + 1) md at_ l = if (modL l).1 = 0 then (if nmB l then (⟨l, md⟩, 0, 0) else (noKy, at_, 210)) else if md &&& (modL l).1 ≠ 0 then (noKy, at_, 210) else parseG f (md ||| (modL l).1) (at_ + (modL l).2) (l.drop (modL l).2) := rfl
def strLen : Value → Nat | .string r => r.size | _ => 0
/-- Two cells of a key's box. -/
structure Box2 (w : World) (b : Nat) (nm : ByteArray) (md : Nat) : Prop where
  c0 : w.cell? ⟨b, 0, none⟩ = some (.string nm)
  c1 : w.cell? ⟨b, 1, none⟩ = some (.int .u8 (md : Int))
  f0 : w.frozen? ⟨b, 0, none⟩ = false
  f1 : w.frozen? ⟨b, 1, none⟩ = false
theorem Box2.of_heap {w : World} {b : Nat} {nm : ByteArray} {md : Nat} {t : TypeId} (h : w.heap[b]? = some (.cells #[.string nm, .int .u8 (md : Int)] t (0, 0))) : Box2 w b nm md :=
  ⟨by rw [blk_cell h]; rfl, by rw [blk_cell h]; rfl, blk_frozen h _, blk_frozen h _⟩
theorem Box2.below {B : Nat} {w w' : World} {b : Nat} {nm : ByteArray} {md : Nat} (h : Box2 w b nm md) (hb : Below B w w') (hlt : b < B) : Box2 w' b nm md :=
  ⟨by rw [hb.cell (p := ⟨b, 0, none⟩) hlt]; exact h.c0, by rw [hb.cell (p := ⟨b, 1, none⟩) hlt]; exact h.c1, by rw [hb.frozen (p := ⟨b, 0, none⟩) hlt]; exact h.f0, by rw [hb.frozen (p := ⟨b, 1, none⟩) hlt]; exact h.f1⟩
theorem Box2.set1 {w : World} {b : Nat} {nm : ByteArray} {md : Nat} (h : Box2 w b nm md) (md' : Nat) : Box2 (w.setCell ⟨b, 1, none⟩ (.int .u8 (md' : Int))) b nm md' := by
  refine ⟨?_, World.cell?_setCell_same' _ _ _ (by rw [h.c1]; rfl), by rw [World.frozen?_setCell]; exact h.f0, by rw [World.frozen?_setCell]; exact h.f1⟩
  have := h.c0
  have h1 := h.c1
  simp [go_sem, *]
theorem Box2.off {w : World} {b : Nat} {nm : ByteArray} {md : Nat} (h : Box2 w b nm md) {p : Addr} (hp : b ≠ p.block) (v : Value) : Box2 (w.setCell p v) b nm md :=
  have e := Below.heap_setCell w p v b hp
  ⟨(World.cell?_of_block (w := w) e).trans h.c0, (World.cell?_of_block (w := w) e).trans h.c1, (World.frozen?_of_block (w := w) e).trans h.f0, (World.frozen?_of_block (w := w) e).trans h.f1⟩
/-! ### the reference's -/
end Go.Proofs.YtcfgpmmclijonaaGreatDoor

/- Layer 21: Parse and Text, both sides. (Printed by gen_g.py.) -/
namespace Go.Proofs.YtcfgpmmclijonaaGreatDoor
set_option linter.unusedVariables false
set_option linter.unusedSimpArgs false
set_option maxRecDepth 100000
open Go.RowKit Go.Shelf Go.Lib
set_option maxRecDepth 100000
set_option maxHeartbeats 4000000

def keyT (Z : Ky × Nat × Nat) : Value := .tuple #[kyV Z.1, .int .i64 (Z.2.1 : Int), .int .i64 (Z.2.2 : Int)]
/-! ### texts -/
def hasB (m md : Nat) : Bool := decide (md &&& m ≠ 0)
theorem ctrlB_eq : ∀ a : Fin 8, ctrlB a.val = hasB 2 a.val ∧ altB a.val = hasB 4 a.val ∧ shiftB a.val = hasB 1 a.val := by decide
def wordS (m md : Nat) (x : ByteArray) : ByteArray := if hasB m md then x else { data := #[] }
theorem flag_any (md m : Nat) (hmd : md < 8) (hm : m < 8) (x : ByteArray) (w : World) : Calls Tryz.prog 52 #[.int .u8 (md : Int), .int .u8 (m : Int), .string x] w fun e w' => e = .returned (.string (wordS m md x)) ∧ w = w' := by
  have hand : bits .and .u8 (md : Int) (m : Int) = ((md &&& m : Nat) : Int) := and_small ⟨md, hmd⟩ ⟨m, hm⟩
  unfold wordS hasB
  by_cases h : md &&& m = 0
  · rw [h] at hand
    rw [decide_eq_false (by simpa using h), if_neg (by decide)]
    clear h
    go_enter Tryz.func52, Tryz.ntmps52
    go_wp2
    go_ret
    exact ⟨rfl, rfl⟩
  · have hq : (((md &&& m : Nat) : Int) == 0) = false := beq_eq_false_iff_ne.2 (by omega)
    rw [decide_eq_true h, if_pos rfl]
    clear h
    go_enter Tryz.func52, Tryz.ntmps52
    go_wp2
    go_ret
    exact ⟨rfl, rfl⟩
theorem nmB_len {l : By} (h : nmB l = true) : l.length ≤ 9 := by
  unfold nmB at h
  rcases Bool.or_eq_true_iff.1 h with h | h
  · have hall : ∀ x ∈ wordsL, x.length ≤ 9 := by decide
    exact hall l (of_decide_eq_true h)
  · have := (of_decide_eq_true h).2.1
    have h4 := wd_four l
    omega
theorem join4 (a b c d : By) : Lib.join [a, b, c, d] [] = a ++ b ++ c ++ d := by
  simp [Lib.join, List.intercalate, List.intersperse]
theorem extra_join : Builder.Extra Tryz.prog Tryz.laysJoin_ren where
  sizeBuilder := by kernel_rfl
  liesBuilder := by kernel_rfl
  t5 := Tryz.underlying5
  a5 := Tryz.isAgg5
  z5 := Tryz.sizeOf5
  v5 := Tryz.zeroValue5
  infoByte := by kernel_rfl
  cellsByte := by kernel_rfl
  sizeByte := by kernel_rfl
  neB5 := by decide
theorem joined_any (g : Nat) (a b c d : ByteArray) (t : TypeId) (w : World) (hg : w.heap[g]? = some (.cells #[.string a, .string b, .string c, .string d] t (0, 0))) (hl : a.size + b.size + c.size + d.size ≤ 1000) :
    Calls Tryz.prog 51 #[.slice (some ⟨g, 0, none⟩) 4 4] w fun e w' => e = .returned (.string ⟨(a.data.toList ++ b.data.toList ++ c.data.toList ++ d.data.toList).toArray⟩) ∧ Below w.heap.size w w' := by
  have C := Any.strings_Join Tryz.laysJoin extra_join g 0 4 [a, b, c, d] { data := #[] } w (fun j x hj => by
    rw [Nat.zero_add, blk_cell hg j]
    match j, hj with
    | 0, hj => cases hj; rfl
    | 1, hj => cases hj; rfl
    | 2, hj => cases hj; rfl
    | 3, hj => cases hj; rfl) (blk_lt2 hg) (by simp) (by simp) (by
      show (Lib.join [a.data.toList, b.data.toList, c.data.toList, d.data.toList] []).length ≤ _
      rw [join4]
      simp
      omega)
  have e4 : Lib.join ([a, b, c, d].map (·.data.toList)) (ByteArray.mk #[]).data.toList = a.data.toList ++ b.data.toList ++ c.data.toList ++ d.data.toList := join4 _ _ _ _
  rw [e4] at C
  have C' : Calls Tryz.prog 68 #[.slice (some ⟨g, 0, none⟩) 4 4, .string { data := #[] }] w fun e w' => e = .returned (.string ⟨(a.data.toList ++ b.data.toList ++ c.data.toList ++ d.data.toList).toArray⟩) ∧ Below w.heap.size w w' := C
  clear C e4
  generalize (⟨(a.data.toList ++ b.data.toList ++ c.data.toList ++ d.data.toList).toArray⟩ : ByteArray) = z at *
  go_enter Tryz.func51, Tryz.ntmps51
  go_wp2_with fail
  refine C'.mono ?_
  rintro e w1 ⟨rfl, hb⟩
  go_wp2
  go_ret
  exact ⟨rfl, hb⟩
def textT (k : Ky) : Value := if mayB k then .tuple #[.string ⟨(textL k).toArray⟩, .int .i64 0] else .tuple #[.string { data := #[] }, .int .i64 210]
theorem textL_eq (nm : ByteArray) (md : Nat) (hmd : md < 8) : textL ⟨nm.data.toList, md⟩ = (wordS 2 md { data := #[99, 116, 114, 108, 43] }).data.toList ++ (wordS 4 md { data := #[97, 108, 116, 43] }).data.toList ++ (wordS 1 md { data := #[115, 104, 105, 102, 116, 43] }).data.toList ++ nm.data.toList := by
  obtain ⟨e1, e2, e3⟩ := ctrlB_eq ⟨md, hmd⟩
  simp only at e1 e2 e3
  unfold textL wordS
  simp only [e1, e2, e3]
  cases hasB 2 md <;> cases hasB 4 md <;> cases hasB 1 md <;> rfl
theorem wordS_len (m md : Nat) (x : ByteArray) : (wordS m md x).size ≤ x.size := by
  unfold wordS
  split
  · exact Nat.le_refl _
  · exact Nat.zero_le _
theorem Text_any (nm : ByteArray) (md : Nat) (w : World) (hT : Tabs w) : Calls Tryz.prog 27 #[.agg #[.string nm, .int .u8 (md : Int)]] w fun e w' => e = .returned (textT ⟨nm.data.toList, md⟩) ∧ Below w.heap.size w w' := by
  have HA := (Below.refl w.heap.size w).alloc (Nat.le_refl _) (.cells #[.string nm, .int .u8 (md : Int)] 32)
  have C := may_any nm md (w.alloc (.cells #[.string nm, .int .u8 (md : Int)] 32)) (tabs_on hT HA)
  unfold textT
  rcases hm : mayB ⟨nm.data.toList, md⟩ with _ | _
  · rw [hm] at C
    rw [if_neg (by decide)]
    clear hm
    go_enter Tryz.func27, Tryz.ntmps27
    go_wp2_with fail
    refine C.mono ?_
    rintro e w1 ⟨rfl, hb⟩
    go_wp2
    exact bodyPost_ret (by simp [results, Tryz.results27, go_sem, *]) rfl ⟨rfl, HA.trans (hb.mono HA.size)⟩
  · rw [hm] at C
    rw [if_pos rfl]
    have hmd : md < 8 := by
      unfold mayB at hm
      have := of_decide_eq_true (Bool.and_eq_true_iff.1 hm).1
      simp only at this
      omega
    have hnl : nm.size ≤ 9 := by
      unfold mayB at hm
      have := nmB_len (Bool.and_eq_true_iff.1 hm).2
      simp only at this
      rwa [ba_len] at this
    have hBX : Box2 (w.alloc (.cells #[.string nm, .int .u8 (md : Int)] 32)) w.heap.size nm md := Box2.of_heap (World.alloc_heap_new _ _)
    clear hm
    rw [textL_eq nm md hmd]
    have l1 := wordS_len 2 md { data := #[99, 116, 114, 108, 43] }
    have l2 := wordS_len 4 md { data := #[97, 108, 116, 43] }
    have l3 := wordS_len 1 md { data := #[115, 104, 105, 102, 116, 43] }
    have z1 : (ByteArray.mk #[99, 116, 114, 108, 43]).size = 5 := rfl
    have z2 : (ByteArray.mk #[97, 108, 116, 43]).size = 4 := rfl
    have z3 : (ByteArray.mk #[115, 104, 105, 102, 116, 43]).size = 6 := rfl
    have F1 : ∀ w, Calls Tryz.prog 52 #[.int .u8 (md : Int), .int .u8 2, .string { data := #[99, 116, 114, 108, 43] }] w fun e w' => e = .returned (.string (wordS 2 md { data := #[99, 116, 114, 108, 43] })) ∧ w = w' := flag_any md 2 hmd (by decide) { data := #[99, 116, 114, 108, 43] }
    have F2 : ∀ w, Calls Tryz.prog 52 #[.int .u8 (md : Int), .int .u8 4, .string { data := #[97, 108, 116, 43] }] w fun e w' => e = .returned (.string (wordS 4 md { data := #[97, 108, 116, 43] })) ∧ w = w' := flag_any md 4 hmd (by decide) { data := #[97, 108, 116, 43] }
    have F3 : ∀ w, Calls Tryz.prog 52 #[.int .u8 (md : Int), .int .u8 1, .string { data := #[115, 104, 105, 102, 116, 43] }] w fun e w' => e = .returned (.string (wordS 1 md { data := #[115, 104, 105, 102, 116, 43] })) ∧ w = w' := flag_any md 1 hmd (by decide) { data := #[115, 104, 105, 102, 116, 43] }
    generalize wordS 2 md { data := #[99, 116, 114, 108, 43] } = x1 at *
    generalize wordS 4 md { data := #[97, 108, 116, 43] } = x2 at *
    generalize wordS 1 md { data := #[115, 104, 105, 102, 116, 43] } = x3 at *
    have J := fun g t w hg => joined_any g x1 x2 x3 nm t w hg (by omega)
    have HJ := hid J
    have HF1 := hid F1
    have HF2 := hid F2
    have HF3 := hid F3
    clear J F1 F2 F3 l1 l2 l3 z1 z2 z3
    generalize (⟨(x1.data.toList ++ x2.data.toList ++ x3.data.toList ++ nm.data.toList).toArray⟩ : ByteArray) = z at *
    go_enter Tryz.func27, Tryz.ntmps27
    go_wp2_with fail
    refine C.mono ?_
    rintro e w1 ⟨rfl, hb⟩
    obtain ⟨a0, a1, _, _⟩ := hBX.below hb (by simp)
    have hB1 := HA.trans (hb.mono HA.size)
    have hlt : w.heap.size < w1.heap.size := by have := hb.size; simp at this; omega
    clear C hb hBX HA
    go_wp2
    refine region_mono 14 [[], [0], [1], [], [3], [4], [], [6], [7], [], [9], [2, 5, 8, 10], [11], [12]] (pick [IsV (.pointer (some ⟨w.heap.size, 1, none⟩)), IsV (.int .u8 (md : Int)), IsV (.string x1), IsV (.pointer (some ⟨w.heap.size, 1, none⟩)), IsV (.int .u8 (md : Int)), IsV (.string x2),
      IsV (.pointer (some ⟨w.heap.size, 1, none⟩)), IsV (.int .u8 (md : Int)), IsV (.string x3), IsV (.pointer (some ⟨w.heap.size, 0, none⟩)), IsV (.string nm), BlkV 0 #[.string x1, .string x2, .string x3, .string nm] 9 4, IsV (.string z), IsV (.string z)]) mixed (by kernel_rfl) (pick_stable ?_) ?_ ?_
    · simp [IsV.stable, BlkV.stable]
    · simp only [List.take_succ_cons, List.take_zero, MonoObs, DepAll, dsOf, List.map_cons, List.map_nil]
      refine ⟨?_, ?_, ?_, ?_, ?_, ?_, ?_, ?_, ?_, ?_, ?_, ?_, ?_, ?_, trivial⟩
      all_goals simp [go_sem, upon1, pick, IsV, BlkV]
      all_goals first
        | exact fun v1 _ => Below.refl _ _
        | (intro v1 hw; rw [(bcell hw).1 _ _ hlt, a1]; simp [go_sem, Result.andThen]; exact Below.refl _ _)
        | (intro v1 hw; rw [(bcell hw).1 _ _ hlt, a0]; simp [go_sem, Result.andThen]; exact Below.refl _ _)
        | with_reducible exact fun v1 _ => same_up (HF1.out v1)
        | with_reducible exact fun v1 _ => same_up (HF2.out v1)
        | with_reducible exact fun v1 _ => same_up (HF3.out v1)
        | exact fun v1 hw => ⟨(Array.getElem?_eq_some_iff.1 (World.alloc_heap_new v1 _)).2, (Below.refl _ _).alloc (Nat.le_refl _) _⟩
        | (intro v1 hw v g hv hg; subst hv; exact below_up (HJ.out g _ v1 hg))
        | skip
    · intro w4 hb4
      simp only [show List.range 14 = [0, 1, 2, 3, 4, 5, 6, 7, 8, 9, 10, 11, 12, 13] from rfl, DepAll, dsOf, List.map_cons, List.map_nil, List.take_succ_cons, List.take_zero]
      rintro _ rfl _ rfl _ rfl _ rfl _ rfl _ rfl _ rfl _ rfl _ rfl _ rfl _ rfl v9 ⟨g9, rfl, _, _⟩ _ rfl _ rfl
      simp only [List.getD_cons_succ, List.getD_cons_zero, List.drop_succ_cons, List.drop_zero]
      go_wp2
      exact bodyPost_ret (by simp [results, Tryz.results27, go_sem, *]) rfl ⟨rfl, hB1.trans (hb4.mono hB1.size)⟩
/-! ### the reference's text -/
theorem ba_app (a b : ByteArray) : a ++ b = ⟨(a.data.toList ++ b.data.toList).toArray⟩ := by
  rw [← ba_mk (a ++ b)]
  simp
theorem wordS_yes {m md : Nat} (h : md &&& m ≠ 0) (x : ByteArray) : wordS m md x = x := by
  unfold wordS hasB
  rw [decide_eq_true h, if_pos rfl]
theorem wordS_no {m md : Nat} (h : md &&& m = 0) (x : ByteArray) : wordS m md x = { data := #[] } := by
  unfold wordS hasB
  rw [decide_eq_false (by simpa using h), if_neg (by decide)]
end Go.Proofs.YtcfgpmmclijonaaGreatDoor
