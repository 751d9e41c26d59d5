/- Layer 3: the walk of RunesPieces. -/
import Derived.Test.YtoelmcmdiamnnaaDoorRuAw
namespace Go.Proofs.YtoelmcmdiamnnaaDoor
set_option linter.unusedVariables false
set_option linter.unusedSimpArgs false
set_option maxRecDepth 100000
open Go.RowKit Go.Lib

/-! ### plain: step by step -/
theorem inP_at {P : List (Nat × Nat)} (hp : ∀ p ∈ P, 1 ≤ p.1) {k : Nat} (hk : k < P.length) : InP P (off P k : Int) k = true := by
  have := off_strict hp hk
  exact inP_iff.2 ⟨by omega, by omega⟩
theorem next_at {P : List (Nat × Nat)} (hp : ∀ p ∈ P, 1 ≤ p.1) {k : Nat} (hk : k < P.length) : nextE P (off P k : Int) = (off P (k + 1), true) := by
  unfold nextE
  rw [hix_some hk (inP_at hp hk)]
theorem wend_bounds (kd : Int → Nat) (P : List (Nat × Nat)) : ∀ (f i : Nat), i < P.length → i ≤ wend kd P f i ∧ wend kd P f i < P.length
  | 0, i, h => ⟨Nat.le_refl _, h⟩
  | f + 1, i, h => by
    unfold wend
    split
    · rename_i h2
      split
      · have := wend_bounds kd P f (i + 1) h2
        exact ⟨by omega, this.2⟩
      · exact ⟨Nat.le_refl _, h⟩
    · exact ⟨Nat.le_refl _, h⟩
theorem word_at {P : List (Nat × Nat)} (hp : ∀ p ∈ P, 1 ≤ p.1) {k : Nat} (hk : k < P.length) : ∃ j, k + 1 ≤ j ∧ j ≤ P.length ∧ wordE kd P (off P k : Int) = (off P j, true) := by
  have h := wend_bounds kd P P.length k hk
  refine ⟨wend kd P P.length k + 1, by omega, by omega, ?_⟩
  unfold wordE
  rw [hix_some hk (inP_at hp hk)]
theorem next_end (P : List (Nat × Nat)) : nextE P (sumw P : Int) = (0, false) := by
  unfold nextE
  rw [hix_high (Int.le_refl _)]
theorem back_at {P : List (Nat × Nat)} (hp : ∀ p ∈ P, 1 ≤ p.1) {k : Nat} (hk : k < P.length) : backE P (off P (k + 1) : Int) = (off P k, true) := by
  have := off_strict hp hk
  unfold backE
  rw [hix_some hk (inP_iff.2 ⟨by omega, by omega⟩)]
theorem back_zero (P : List (Nat × Nat)) : backE P 0 = (0, false) := by
  unfold backE
  rw [hix_low (by omega)]
def offs (P : List (Nat × Nat)) (k : Nat) : List Int := (List.range k).map fun i => (off P i : Int)
theorem offs_len (P : List (Nat × Nat)) (k : Nat) : (offs P k).length = k := by simp [offs]
theorem offs_succ (P : List (Nat × Nat)) (k : Nat) : offs P (k + 1) = offs P k ++ [(off P k : Int)] := by simp [offs, List.range_succ]
theorem offs_at (P : List (Nat × Nat)) (k i : Nat) (h : i < k) : (offs P k)[i]'(by rw [offs_len]; exact h) = (off P i : Int) := by simp [offs]

/-! ### one number appended -/
theorem info_int : (Tryd.prog.info? 3).map (fun i => (i.zero, i.size, i.bytes)) = some (some (.int .i64 0), 1, 8) := by kernel_rfl
section
variable {ops : Array Oper} {rest : List Oper} {o : Oper} {a : Act} {Q : Exit → Act → World → Prop} {w : World}
theorem append_num (hgd : o.guard = none) (s x : Operand) (ho : o.op = .call { callee := .builtin .append, args := #[s, x], argTypes := #[39, 39] }) (base : Nat) (v : Value) (L : List Int) (n : Nat) (hn : L.length = n) (g : Nat) (b : Int)
    (hs : a.eval s = v) (hx : a.eval x = .slice (some ⟨g, 0, none⟩) 1 1) (hown : w.ownsRow base 3 1 v n (ints L)) (hg : w.heap[g]? = some (.cells #[.int .i64 b] 3 (0, 0))) (hapart : v.ownBlock ≠ some g) (hbase : base ≤ w.heap.size) (hsm : n ≤ 8000000)
    (h : ∀ v' w', w'.ownsRow base 3 1 v' (n + 1) (ints (L ++ [b])) → w.grownBy w' v.ownBlock → v' ≠ .slice none 0 0 → wpList Tryd.prog ops Q rest (a.put o.dst v') w') : wpList Tryd.prog ops Q (o :: rest) a w := by
  obtain ⟨i0, hi, hz0, hz1, hz2⟩ := info_parts info_int
  refine append_one Tryd.underlying39 hi hz0 hz1 hz2 rfl (by decide) (by decide) hgd s x ho base v n (ints L) g #[.int .i64 b] 3 hs hx hown hg rfl (by simp [Value.oneCell']) hapart hbase (fun hh => by omega) (fun v' w' h1 h2 h3 => h v' w' ?_ h2 h3)
  rw [ints_append, show ints [b] = (#[.int .i64 b] : Array Value).toList by rfl]
  exact h1
end
set_option maxRecDepth 100000
set_option maxHeartbeats 8000000
theorem walkRunesPieces (w : World) (hT : TabsL w) (s : ByteArray) (hs : s.size ≤ 4000000) :
    Calls Tryd.prog 6 #[.string s] w fun e w' => e = .returned (.bool true) ∧ Below w.heap.size w w' := by
  have hl2 : s.data.toList.length = s.size := by simp
  have hpos := pcs_pos s.data.toList
  have hsum := pcs_sum s.data.toList
  have hlen := pcs_len s.data.toList
  have CN := fun a w => small (Next_any s a w (by omega)) hs
  have CW := fun a w hT => Word_any s a w hT hs
  have CB := fun a h1 h2 w => small (Back_any s a h1 h2 w (by omega)) hs
  have CC := fun w => small (Cells_any s w (by omega)) hs
  generalize pcs s.data.toList = P at *
  generalize total P = T at *
  rw [hl2] at hsum hlen
  change sumw P = s.size at hsum
  have DN : ∀ k, k < P.length → ∀ w, Calls Tryd.prog 23 #[.string s, .int .i64 (off P k : Int)] w fun e w' => e = .returned (.tuple #[.int .i64 (off P (k + 1) : Int), .bool true]) ∧ Below w.heap.size w w' := by
    intro k hk w
    have q := CN (off P k : Int) w
    rw [next_at hpos hk] at q
    exact q
  have DW : ∀ k, k < P.length → ∃ j, k + 1 ≤ j ∧ j ≤ P.length ∧ ∀ w, Tabs w → Calls Tryd.prog 27 #[.string s, .int .i64 (off P k : Int)] w fun e w' => e = .returned (.tuple #[.int .i64 (off P j : Int), .bool true]) ∧ Below w.heap.size w w' := by
    intro k hk
    obtain ⟨j, h1, h2, h3⟩ := word_at hpos hk
    refine ⟨j, h1, h2, fun w hT => ?_⟩
    have q := CW (off P k : Int) w hT
    rw [h3] at q
    exact q
  have DE : ∀ w, Calls Tryd.prog 23 #[.string s, .int .i64 (s.size : Int)] w fun e w' => e = .returned (.tuple #[.int .i64 0, .bool false]) ∧ Below w.heap.size w w' := by
    intro w
    have q := CN (sumw P : Int) w
    rw [next_end] at q
    rw [hsum] at q
    exact q
  have DB : ∀ k, k < P.length → ∀ w, Calls Tryd.prog 25 #[.string s, .int .i64 (off P (k + 1) : Int)] w fun e w' => e = .returned (.tuple #[.int .i64 (off P k : Int), .bool true]) ∧ Below w.heap.size w w' := by
    intro k hk w
    have := off_le_sum P (k + 1)
    have q := CB (off P (k + 1) : Int) (by omega) (by omega) w
    rw [back_at hpos hk] at q
    exact q
  have DZ : ∀ w, Calls Tryd.prog 25 #[.string s, .int .i64 0] w fun e w' => e = .returned (.tuple #[.int .i64 0, .bool false]) ∧ Below w.heap.size w w' := by
    intro w
    have q := CB 0 (by omega) (by omega) w
    rw [back_zero] at q
    exact q
  have OM := fun i j (h : i ≤ j) => off_mono P h
  have OS := fun k (hk : k < P.length) => off_strict hpos hk
  have OA := off_all P
  have OL := fun k => off_le_sum P k
  rw [hsum] at OA OL
  have HDN := hid DN
  have HDW := hid DW
  have HDB := hid DB
  have HOM := hid OM
  have HOS := hid OS
  have HOL := hid OL
  have hPL : P.length ≤ 4000000 := by omega
  clear DN DW DB CN CW CB OM OS OL hsum hlen hl2 hpos
  go_enter Tryd.func6, Tryd.ntmps6
  go_wp2_with fail
  refine (awake_any w hT).mono ?_
  rintro e w1 ⟨rfl, hb1⟩
  have HB1 := hid hb1
  have hs1 := hb1.size
  clear hb1
  go_wp2
  go_loopg [4, 5] P.length (fun gh v4 v5 wr => ∃ (k : Nat) (A : Option Addr) (cc : Nat), v4 = .slice A k cc ∧ v5 = .int .i64 (off P k : Int) ∧ k ≤ P.length ∧ P.length - k ≤ gh ∧ Hid (Below w.heap.size w wr ∧ wr.ownsRow w.heap.size 3 1 (.slice A k cc) k (ints (offs P k))))
  case atStart => exact ⟨0, none, 0, rfl, by rw [off_zero]; rfl, by omega, by omega, hid ⟨HB1.out, World.ownsRow_nil _ _ _ _⟩⟩
  case round =>
    obtain ⟨k, A, cc, rfl, rfl, hk, hgh, HO⟩ := hrel
    have hsr := HO.out.1.size
    by_cases hlt : k < P.length
    · have h1 := HOS.out k hlt
      have h2 := HOL.out (k + 1)
      have EN := HDN.out k hlt
      obtain ⟨j, hj1, hj2, EW⟩ := HDW.out k hlt
      have h3 := HOM.out (k + 1) j hj1
      have h4 := HOL.out j
      have hon := offs_succ P k
      obtain ⟨x, hx⟩ : ∃ x, off P k = x := ⟨_, rfl⟩
      obtain ⟨y, hy⟩ : ∃ y, off P (k + 1) = y := ⟨_, rfl⟩
      obtain ⟨z, hz⟩ : ∃ z, off P j = z := ⟨_, rfl⟩
      rw [hx] at h1 EN EW hon
      rw [hy] at h1 h2 h3 EN
      rw [hz] at h3 h4 EW
      rw [hx]
      have HY := hid hy
      have HON := hid hon
      have hxs : (x : Int) < (s.size : Int) := by omega
      have hyx : ¬ ((y : Int) ≤ (x : Int)) := by omega
      have hyx' : (x : Int) < (y : Int) := by omega
      have hys : ¬ ((s.size : Int) < (y : Int)) := by omega
      have hzy : ¬ ((z : Int) < (y : Int)) := by omega
      have hzs : ¬ ((s.size : Int) < (z : Int)) := by omega
      have hys' : (y : Int) ≤ (s.size : Int) := by omega
      have hzy' : (y : Int) ≤ (z : Int) := by omega
      have hzs' : (z : Int) ≤ (s.size : Int) := by omega
      clear hx hy hz hon h1 h2 h3 h4
      go_wp2_with fail
      refine (EN wr).mono ?_
      rintro e w2 ⟨rfl, hb2⟩
      have HB2 := hid (HO.out.1.trans (hb2.mono hsr))
      have HO2 := hid (own_below' HO.out.2 hb2)
      clear hb2
      have EW2 := EW w2 (tabsL_on hT HB2.out).1
      go_wp2_with fail
      refine EW2.mono ?_
      rintro e w3 ⟨rfl, hb3⟩
      have HB3 := hid (HB2.out.trans (hb3.mono HB2.out.size))
      have HO3 := hid (own_below' HO2.out hb3)
      have hs3 := HB3.out.size
      clear hb3 HO2 EN EW EW2 HO
      go_wp2_with (
        at_builtin
        refine append_num rfl _ _ rfl w.heap.size (.slice A k cc) (offs P k) k (offs_len P k) w3.heap.size (x : Int) rfl rfl (own_below' HO3.out ((Below.refl _ _).alloc (Nat.le_refl _) _)) (heap_alloc_new _ _) (fun e => by have := own_lt HO3.out (Nat.le_refl _) _ e; omega) (by simp; omega) (by omega) (fun v' w4 k1 k2 k3 => ?_)
        obtain ⟨A', cc', rfl⟩ := own_shape k1
        have HB := hid ((HB3.out.alloc (by omega) _).grown k2 (by simp; omega) (fun k hk => own_ge HO3.out k hk))
        rw [← HON.out] at k1
        have HOO := hid k1
        clear k1 k2 k3)
      go_roundg (P.length - (k + 1))
      case measure => omega
      case rel => exact ⟨k + 1, A', cc', rfl, by rw [HY.out], by omega, by omega, hid ⟨HB.out, HOO.out⟩⟩
    · have hke : k = P.length := by omega
      subst hke
      rw [OA]
      have hxs : ¬ ((s.size : Int) < (s.size : Int)) := by omega
      have HA := hid (At.of_own HO.out.2)
      have HBr := hid HO.out.1
      clear HO
      go_wp2_with fail
      refine (CC wr).mono ?_
      rintro e w2 ⟨rfl, hb2⟩
      have hs2 := hb2.size
      go_wp2_with fail
      refine (DE w2).mono ?_
      rintro e w3 ⟨rfl, hb3⟩
      have HP3 := hid (hb2.trans (hb3.mono hs2))
      have hs3 := HP3.out.size
      have HB3 := hid (HBr.out.trans (HP3.out.mono hsr))
      have hw3 := HB3.out.size
      clear hb2 hb3 HBr
      generalize wr = wq at *
      have hpn : (P.length : Int) - 1 = ((P.length : Int) - 1) := rfl
      go_wp2
      go_loopg [14, 15] P.length (fun gh v14 v15 wr => ∃ k : Nat, v14 = .int .i64 (off P k : Int) ∧ v15 = .int .i64 ((k : Int) - 1) ∧ k ≤ P.length ∧ k ≤ gh ∧ Hid (Below w3.heap.size w3 wr))
      case atStart => exact ⟨P.length, by rw [OA], by go_num, by omega, by omega, hid (Below.refl _ _)⟩
      case round =>
        obtain ⟨k, rfl, rfl, hk, hgh, HX⟩ := hrel
        have hsx := HX.out.size
        by_cases h0 : 1 ≤ k
        · obtain ⟨i, rfl⟩ : ∃ i, k = i + 1 := ⟨k - 1, by omega⟩
          have hi : i < P.length := by omega
          have EB := HDB.out i hi wr
          have hAx := (HA.out.below HP3.out).below (HX.out.mono hs3)
          obtain ⟨g, o, rfl, hg, c0⟩ := hAx.int (k := i) (by rw [offs_len]; exact hi)
          rw [offs_at P _ _ hi] at c0
          have hmo := HOL.out i
          obtain ⟨x, hx⟩ : ∃ x, off P i = x := ⟨_, rfl⟩
          obtain ⟨y, hy⟩ : ∃ y, off P (i + 1) = y := ⟨_, rfl⟩
          rw [hx] at c0 EB hmo
          rw [hy] at EB
          rw [hy]
          have hii : ((i + 1 : Nat) : Int) - 1 = (i : Int) := by omega
          rw [hii]
          have hii0 : (0 : Int) ≤ (i : Int) := by omega
          have hil : (i : Int) < (P.length : Int) := by omega
          have HXX := hid hx
          clear hx hy hii hAx
          go_wp2_with fail
          refine EB.mono ?_
          rintro e w4 ⟨rfl, hb4⟩
          have c4 : w4.cell? ⟨g, o + i, none⟩ = some (.int .i64 (x : Int)) := by rw [(bcell hb4).1 _ _ (by omega)]; exact c0
          have hg4 : g < w4.heap.size := by have := hb4.size; omega
          have HX4 := hid (HX.out.trans (hb4.mono hsx))
          clear hb4 c0 EB
          go_wp2
          go_roundg i
          case measure => omega
          case rel => exact ⟨i, by rw [HXX.out], by go_num, by omega, by omega, HX4⟩
        · have hk0 : k = 0 := by omega
          subst hk0
          rw [off_zero]
          have h01 : ¬ ((0 : Int) ≤ ((0 : Nat) : Int) - 1) := by omega
          go_wp2_with fail
          refine (DZ wr).mono ?_
          rintro e w5 ⟨rfl, hb5⟩
          go_wp2
          go_ret
          exact ⟨rfl, HB3.out.trans ((HX.out.trans (hb5.mono hsx)).mono hw3)⟩
end Go.Proofs.YtoelmcmdiamnnaaDoor
