/- Layer 21: Parse and Text, both sides. (Printed by gen_g.py.) -/
import Derived.Test.YtcfgpmmclijonaaDoorKeF
import Derived.Test.YtcfgpmmclijonaaDoorMonoV
import Derived.Laws.Concat
namespace Go.Proofs.YtcfgpmmclijonaaDoor
set_option linter.unusedVariables false
set_option linter.unusedSimpArgs false
set_option maxRecDepth 100000
open Go.RowKit Go.Shelf Go.Lib
set_option maxRecDepth 100000
set_option maxHeartbeats 4000000

def keyT (Z : Ky × Nat × Nat) : Value := .tuple #[kyV Z.1, .int .i64 (Z.2.1 : Int), .int .i64 (Z.2.2 : Int)]
/-! ### texts -/
def hasB (m md : Nat) : Bool := decide (md &&& m ≠ 0)
theorem ctrlB_eq : ∀ a : Fin 8, ctrlB a.val = hasB 2 a.val ∧ altB a.val = hasB 4 a.val ∧ shiftB a.val = hasB 1 a.val := by decide
def wordS (m md : Nat) (x : ByteArray) : ByteArray := if hasB m md then x else { data := #[] }
theorem flag_any (md m : Nat) (hmd : md < 8) (hm : m < 8) (x : ByteArray) (w : World) : Calls Tryd.prog 51 #[.int .u8 (md : Int), .int .u8 (m : Int), .string x] w fun e w' => e = .returned (.string (wordS m md x)) ∧ w = w' := by
  have hand : bits .and .u8 (md : Int) (m : Int) = ((md &&& m : Nat) : Int) := and_small ⟨md, hmd⟩ ⟨m, hm⟩
  unfold wordS hasB
  by_cases h : md &&& m = 0
  · rw [h] at hand
    rw [decide_eq_false (by simpa using h), if_neg (by decide)]
    clear h
    go_enter Tryd.func51, Tryd.ntmps51
    go_wp2
    go_ret
    exact ⟨rfl, rfl⟩
  · have hq : (((md &&& m : Nat) : Int) == 0) = false := beq_eq_false_iff_ne.2 (by omega)
    rw [decide_eq_true h, if_pos rfl]
    clear h
    go_enter Tryd.func51, Tryd.ntmps51
    go_wp2
    go_ret
    exact ⟨rfl, rfl⟩
theorem nmB_len {l : By} (h : nmB l = true) : l.length ≤ 9 := by
  unfold nmB at h
  rcases Bool.or_eq_true_iff.1 h with h | h
  · have hall : ∀ x ∈ wordsL, x.length ≤ 9 := by decide
    exact hall l (of_decide_eq_true h)
  · have := (of_decide_eq_true h).2.1
    have h4 := wd_four l
    omega
theorem join4 (a b c d : By) : Lib.join [a, b, c, d] [] = a ++ b ++ c ++ d := by
  simp [Lib.join, List.intercalate, List.intersperse]
theorem extra_join : Builder.Extra Tryd.prog Tryd.laysJoin_ren where
  sizeBuilder := by kernel_rfl
  liesBuilder := by kernel_rfl
  t5 := Tryd.underlying5
  a5 := Tryd.isAgg5
  z5 := Tryd.sizeOf5
  v5 := Tryd.zeroValue5
  infoByte := by kernel_rfl
  cellsByte := by kernel_rfl
  sizeByte := by kernel_rfl
  neB5 := by decide
theorem joined_any (g : Nat) (a b c d : ByteArray) (t : TypeId) (w : World) (hg : w.heap[g]? = some (.cells #[.string a, .string b, .string c, .string d] t (0, 0))) (hl : a.size + b.size + c.size + d.size ≤ 1000) :
    Calls Tryd.prog 50 #[.slice (some ⟨g, 0, none⟩) 4 4] w fun e w' => e = .returned (.string ⟨(a.data.toList ++ b.data.toList ++ c.data.toList ++ d.data.toList).toArray⟩) ∧ Below w.heap.size w w' := by
  have C := Any.strings_Join Tryd.laysJoin extra_join g 0 4 [a, b, c, d] { data := #[] } w (fun j x hj => by
    rw [Nat.zero_add, blk_cell hg j]
    match j, hj with
    | 0, hj => cases hj; rfl
    | 1, hj => cases hj; rfl
    | 2, hj => cases hj; rfl
    | 3, hj => cases hj; rfl) (blk_lt2 hg) (by simp) (by simp) (by
      show (Lib.join [a.data.toList, b.data.toList, c.data.toList, d.data.toList] []).length ≤ _
      rw [join4]
      simp
      omega)
  have e4 : Lib.join ([a, b, c, d].map (·.data.toList)) (ByteArray.mk #[]).data.toList = a.data.toList ++ b.data.toList ++ c.data.toList ++ d.data.toList := join4 _ _ _ _
  rw [e4] at C
  have C' : Calls Tryd.prog 59 #[.slice (some ⟨g, 0, none⟩) 4 4, .string { data := #[] }] w fun e w' => e = .returned (.string ⟨(a.data.toList ++ b.data.toList ++ c.data.toList ++ d.data.toList).toArray⟩) ∧ Below w.heap.size w w' := C
  clear C e4
  generalize (⟨(a.data.toList ++ b.data.toList ++ c.data.toList ++ d.data.toList).toArray⟩ : ByteArray) = z at *
  go_enter Tryd.func50, Tryd.ntmps50
  go_wp2_with fail
  refine C'.mono ?_
  rintro e w1 ⟨rfl, hb⟩
  go_wp2
  go_ret
  exact ⟨rfl, hb⟩
def textT (k : Ky) : Value := if mayB k then .tuple #[.string ⟨(textL k).toArray⟩, .int .i64 0] else .tuple #[.string { data := #[] }, .int .i64 210]
theorem textL_eq (nm : ByteArray) (md : Nat) (hmd : md < 8) : textL ⟨nm.data.toList, md⟩ = (wordS 2 md { data := #[99, 116, 114, 108, 43] }).data.toList ++ (wordS 4 md { data := #[97, 108, 116, 43] }).data.toList ++ (wordS 1 md { data := #[115, 104, 105, 102, 116, 43] }).data.toList ++ nm.data.toList := by
  obtain ⟨e1, e2, e3⟩ := ctrlB_eq ⟨md, hmd⟩
  simp only at e1 e2 e3
  unfold textL wordS
  simp only [e1, e2, e3]
  cases hasB 2 md <;> cases hasB 4 md <;> cases hasB 1 md <;> rfl
theorem wordS_len (m md : Nat) (x : ByteArray) : (wordS m md x).size ≤ x.size := by
  unfold wordS
  split
  · exact Nat.le_refl _
  · exact Nat.zero_le _
theorem Text_any (nm : ByteArray) (md : Nat) (w : World) (hT : Tabs w) : Calls Tryd.prog 36 #[.agg #[.string nm, .int .u8 (md : Int)]] w fun e w' => e = .returned (textT ⟨nm.data.toList, md⟩) ∧ Below w.heap.size w w' := by
  have HA := (Below.refl w.heap.size w).alloc (Nat.le_refl _) (.cells #[.string nm, .int .u8 (md : Int)] 41)
  have C := may_any nm md (w.alloc (.cells #[.string nm, .int .u8 (md : Int)] 41)) (tabs_on hT HA)
  unfold textT
  rcases hm : mayB ⟨nm.data.toList, md⟩ with _ | _
  · rw [hm] at C
    rw [if_neg (by decide)]
    clear hm
    go_enter Tryd.func36, Tryd.ntmps36
    go_wp2_with fail
    refine C.mono ?_
    rintro e w1 ⟨rfl, hb⟩
    go_wp2
    exact bodyPost_ret (by simp [results, Tryd.results36, go_sem, *]) rfl ⟨rfl, HA.trans (hb.mono HA.size)⟩
  · rw [hm] at C
    rw [if_pos rfl]
    have hmd : md < 8 := by
      unfold mayB at hm
      have := of_decide_eq_true (Bool.and_eq_true_iff.1 hm).1
      simp only at this
      omega
    have hnl : nm.size ≤ 9 := by
      unfold mayB at hm
      have := nmB_len (Bool.and_eq_true_iff.1 hm).2
      simp only at this
      rwa [ba_len] at this
    have hBX : Box2 (w.alloc (.cells #[.string nm, .int .u8 (md : Int)] 41)) w.heap.size nm md := Box2.of_heap (World.alloc_heap_new _ _)
    clear hm
    rw [textL_eq nm md hmd]
    have l1 := wordS_len 2 md { data := #[99, 116, 114, 108, 43] }
    have l2 := wordS_len 4 md { data := #[97, 108, 116, 43] }
    have l3 := wordS_len 1 md { data := #[115, 104, 105, 102, 116, 43] }
    have z1 : (ByteArray.mk #[99, 116, 114, 108, 43]).size = 5 := rfl
    have z2 : (ByteArray.mk #[97, 108, 116, 43]).size = 4 := rfl
    have z3 : (ByteArray.mk #[115, 104, 105, 102, 116, 43]).size = 6 := rfl
    have F1 : ∀ w, Calls Tryd.prog 51 #[.int .u8 (md : Int), .int .u8 2, .string { data := #[99, 116, 114, 108, 43] }] w fun e w' => e = .returned (.string (wordS 2 md { data := #[99, 116, 114, 108, 43] })) ∧ w = w' := flag_any md 2 hmd (by decide) { data := #[99, 116, 114, 108, 43] }
    have F2 : ∀ w, Calls Tryd.prog 51 #[.int .u8 (md : Int), .int .u8 4, .string { data := #[97, 108, 116, 43] }] w fun e w' => e = .returned (.string (wordS 4 md { data := #[97, 108, 116, 43] })) ∧ w = w' := flag_any md 4 hmd (by decide) { data := #[97, 108, 116, 43] }
    have F3 : ∀ w, Calls Tryd.prog 51 #[.int .u8 (md : Int), .int .u8 1, .string { data := #[115, 104, 105, 102, 116, 43] }] w fun e w' => e = .returned (.string (wordS 1 md { data := #[115, 104, 105, 102, 116, 43] })) ∧ w = w' := flag_any md 1 hmd (by decide) { data := #[115, 104, 105, 102, 116, 43] }
    generalize wordS 2 md { data := #[99, 116, 114, 108, 43] } = x1 at *
    generalize wordS 4 md { data := #[97, 108, 116, 43] } = x2 at *
    generalize wordS 1 md { data := #[115, 104, 105, 102, 116, 43] } = x3 at *
    have J := fun g t w hg => joined_any g x1 x2 x3 nm t w hg (by omega)
    have HJ := hid J
    have HF1 := hid F1
    have HF2 := hid F2
    have HF3 := hid F3
    clear J F1 F2 F3 l1 l2 l3 z1 z2 z3
    generalize (⟨(x1.data.toList ++ x2.data.toList ++ x3.data.toList ++ nm.data.toList).toArray⟩ : ByteArray) = z at *
    go_enter Tryd.func36, Tryd.ntmps36
    go_wp2_with fail
    refine C.mono ?_
    rintro e w1 ⟨rfl, hb⟩
    obtain ⟨a0, a1, _, _⟩ := hBX.below hb (by simp)
    have hB1 := HA.trans (hb.mono HA.size)
    have hlt : w.heap.size < w1.heap.size := by have := hb.size; simp at this; omega
    clear C hb hBX HA
    go_wp2
    refine region_mono 14 [[], [0], [1], [], [3], [4], [], [6], [7], [], [9], [2, 5, 8, 10], [11], [12]] (pick [IsV (.pointer (some ⟨w.heap.size, 1, none⟩)), IsV (.int .u8 (md : Int)), IsV (.string x1), IsV (.pointer (some ⟨w.heap.size, 1, none⟩)), IsV (.int .u8 (md : Int)), IsV (.string x2),
      IsV (.pointer (some ⟨w.heap.size, 1, none⟩)), IsV (.int .u8 (md : Int)), IsV (.string x3), IsV (.pointer (some ⟨w.heap.size, 0, none⟩)), IsV (.string nm), BlkV 0 #[.string x1, .string x2, .string x3, .string nm] 9 4, IsV (.string z), IsV (.string z)]) mixed (by kernel_rfl) (pick_stable ?_) ?_ ?_
    · simp [IsV.stable, BlkV.stable]
    · simp only [List.take_succ_cons, List.take_zero, MonoObs, DepAll, dsOf, List.map_cons, List.map_nil]
      refine ⟨?_, ?_, ?_, ?_, ?_, ?_, ?_, ?_, ?_, ?_, ?_, ?_, ?_, ?_, trivial⟩
      all_goals simp [go_sem, upon1, pick, IsV, BlkV]
      all_goals first
        | exact fun v1 _ => Below.refl _ _
        | (intro v1 hw; rw [(bcell hw).1 _ _ hlt, a1]; simp [go_sem, Result.andThen]; exact Below.refl _ _)
        | (intro v1 hw; rw [(bcell hw).1 _ _ hlt, a0]; simp [go_sem, Result.andThen]; exact Below.refl _ _)
        | with_reducible exact fun v1 _ => same_up (HF1.out v1)
        | with_reducible exact fun v1 _ => same_up (HF2.out v1)
        | with_reducible exact fun v1 _ => same_up (HF3.out v1)
        | exact fun v1 hw => ⟨(Array.getElem?_eq_some_iff.1 (World.alloc_heap_new v1 _)).2, (Below.refl _ _).alloc (Nat.le_refl _) _⟩
        | (intro v1 hw v g hv hg; subst hv; exact below_up (HJ.out g _ v1 hg))
        | skip
    · intro w4 hb4
      simp only [show List.range 14 = [0, 1, 2, 3, 4, 5, 6, 7, 8, 9, 10, 11, 12, 13] from rfl, DepAll, dsOf, List.map_cons, List.map_nil, List.take_succ_cons, List.take_zero]
      rintro _ rfl _ rfl _ rfl _ rfl _ rfl _ rfl _ rfl _ rfl _ rfl _ rfl _ rfl v9 ⟨g9, rfl, _, _⟩ _ rfl _ rfl
      simp only [List.getD_cons_succ, List.getD_cons_zero, List.drop_succ_cons, List.drop_zero]
      go_wp2
      exact bodyPost_ret (by simp [results, Tryd.results36, go_sem, *]) rfl ⟨rfl, hB1.trans (hb4.mono hB1.size)⟩
/-! ### the reference's text -/
theorem ba_app (a b : ByteArray) : a ++ b = ⟨(a.data.toList ++ b.data.toList).toArray⟩ := by
  rw [← ba_mk (a ++ b)]
  simp
theorem wordS_yes {m md : Nat} (h : md &&& m ≠ 0) (x : ByteArray) : wordS m md x = x := by
  unfold wordS hasB
  rw [decide_eq_true h, if_pos rfl]
theorem wordS_no {m md : Nat} (h : md &&& m = 0) (x : ByteArray) : wordS m md x = { data := #[] } := by
  unfold wordS hasB
  rw [decide_eq_false (by simpa using h), if_neg (by decide)]
end Go.Proofs.YtcfgpmmclijonaaDoor
