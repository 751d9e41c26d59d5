/- Layer 21: the walk of KeysBytes. -/
import Derived.Test.YtddigbhijfpmkaaDoorKeRf
import Derived.Test.YtddigbhijfpmkaaDoorKeW
namespace Go.Proofs.YtddigbhijfpmkaaDoor
set_option linter.unusedVariables false
set_option linter.unusedSimpArgs false
set_option maxRecDepth 100000
open Go.RowKit Go.Shelf Go.Lib
set_option maxRecDepth 100000
set_option maxHeartbeats 8000000

theorem bytes_len' : ∀ (n : Nat) (l : By), l.length = n → (bytesL l).1.length ≤ l.length := by
  intro n
  induction n using Nat.strongRecOn with
  | _ n ih =>
    intro l hln
    by_cases hl : l = []
    · subst hl
      exact Nat.zero_le _
    · by_cases hn : (thingL l).2 = 0
      · rw [bytesL_wait hl hn]
        exact Nat.zero_le _
      · have h0 := pos_of hl
        have hi := ih (l.drop (thingL l).2).length (by rw [List.length_drop]; omega) _ rfl
        rw [List.length_drop] at hi
        rw [bytesL_step hl hn]
        simp only
        split
        · omega
        · rw [List.length_cons]
          have := thing_le hl
          omega
theorem BytesL_len (l : By) : (BytesL l).1.length ≤ 65536 := by
  unfold BytesL
  split
  · exact Nat.zero_le _
  · have := bytes_len' _ l rfl
    show (bytesL l).1.length ≤ _
    omega
theorem walkKeysBytes (w : World) (hT : Tabs w) (s : ByteArray) :
    Calls Tryd.prog 3 #[.string s] w fun e w' => e = .returned (.bool true) ∧ Below w.heap.size w w' := by
  have CC := fun w1 (hb : Below w.heap.size w w1) => Bytes_any s w1 (tabs_on hT hb)
  have CD := fun w1 (hb : Below w.heap.size w w1) => rBytes_any s w1 (tabs_on hT hb)
  have CA := awake_any w hT
  have hlen := BytesL_len s.data.toList
  obtain ⟨⟨Zl, Za, Ze⟩, hZ⟩ : ∃ y, BytesL s.data.toList = y := ⟨_, rfl⟩
  rw [hZ] at CC CD hlen
  unfold ChordP at CC CD
  simp only at CC CD
  simp only at hlen
  have HCC := hid CC
  have HCD := hid CD
  clear CC CD hT hZ
  obtain ⟨Zn, hZn⟩ : ∃ n, Zl.length = n := ⟨_, rfl⟩
  have HZN := hid hZn
  rw [hZn] at HCC HCD hlen
  clear hZn
  have hlen2 : Zn ≤ 4611686018427387904 := by omega
  go_enter Tryd.func3, Tryd.ntmps3
  go_wp2_with fail
  with_reducible refine CA.mono ?_
  rintro e w1 ⟨rfl, hb1⟩
  clear CA
  go_wp2_with fail
  with_reducible refine (HCC.out _ hb1).mono ?_
  rintro e w6 ⟨A6, k6, rfl, hown6, hb6⟩
  have hs6 := hb6.size
  have hB7 := hb1.trans (hb6.mono hb1.size)
  have hs1 := hb1.size
  clear hb6
  go_wp2_with fail
  with_reducible refine (HCD.out _ hB7).mono ?_
  rintro e w7 ⟨A7, k7, rfl, hown7, hb7⟩
  have hs7 := hb7.size
  have hB8 := hB7.trans (hb7.mono hB7.size)
  have hownc := own_below' hown6 hb7
  have hap : ∀ k, (Value.slice A7 Zn k7).ownBlock = some k → (Value.slice A6 Zn k6).ownBlock ≠ some k := fun k h1 h2 => by
    have := (hown7.lt k h1).1
    have := (hown6.lt k h2).2
    omega
  clear hb7 hB7 hown6
  have CS := Same_any w7.heap.size A6 A7 k6 k7 Zl Zl w7 (At.of_own hownc) (At.of_own hown7) (Nat.le_refl _) (by rw [HZN.out]; exact hlen2) (by rw [HZN.out]; exact hlen2)
  rw [HZN.out, decide_eq_true rfl] at CS
  have HAP := hid hap
  clear hap
  go_wp2_with fail
  with_reducible refine CS.mono ?_
  rintro e w8 ⟨rfl, hb8⟩
  have hs8 := hb8.size
  have hB9 := hB8.trans (hb8.mono hB8.size)
  have hownc2 := own_below' hownc hb8
  have hown72 := own_below' hown7 hb8
  clear CS hb8 hB8 hownc hown7
  have SP := spoil_any _ A6 k6 Zl w8 (by rw [HZN.out]; exact hownc2) (by omega) (by rw [HZN.out]; omega)
  rw [HZN.out] at SP
  go_wp2_with fail
  with_reducible refine SP.mono ?_
  rintro e w9 ⟨rfl, hg9⟩
  have hs9 := hg9.size
  have hown9 := own_apart hown72 hg9 (fun k h1 => HAP.out k h1)
  have hB10 : Below w.heap.size w w9 := hB9.grown hg9 hB9.size (fun k hk => by have h := (hownc2.lt k hk).1; omega)
  clear SP hg9 hownc2 hown72 hB9
  go_wp2_with fail
  with_reducible refine (HCC.out _ hB10).mono ?_
  rintro e w10 ⟨A10, k10, rfl, hown10, hb10⟩
  have hB11 := hB10.trans (hb10.mono hB10.size)
  have hown11 := own_below' hown9 hb10
  clear hb10 hB10 hown9
  have CS := Same_any w10.heap.size A10 A7 k10 k7 Zl Zl w10 (At.of_own hown10) (At.of_own hown11) (Nat.le_refl _) (by rw [HZN.out]; exact hlen2) (by rw [HZN.out]; exact hlen2)
  rw [HZN.out, decide_eq_true rfl] at CS
  clear hown10 hown11
  go_wp2_with fail
  with_reducible refine CS.mono ?_
  rintro e w12 ⟨rfl, hb12⟩
  go_wp2
  go_ret
  exact ⟨rfl, hB11.trans (hb12.mono hB11.size)⟩
end Go.Proofs.YtddigbhijfpmkaaDoor
