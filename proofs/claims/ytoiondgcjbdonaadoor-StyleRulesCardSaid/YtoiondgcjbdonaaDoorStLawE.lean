/- Layer 5: StyleRules: the walk. (Printed by gen_le.py from StLawE.head.) -/
import Derived.Test.YtoiondgcjbdonaaDoorStZK
namespace Go.Proofs.YtoiondgcjbdonaaDoor
set_option linter.unusedVariables false
set_option linter.unusedSimpArgs false
set_option maxRecDepth 100000
open Go.RowKit Go.Shelf Go.Lib Go.Sort

/-- What both orders answer: a row of one's own (or none), and a word. -/
def OrdU (N : Nat) (E : Int) (xs : List Int) (x : World) (e : Ending) (w' : World) : Prop := ∃ Ao, e = .returned (.tuple #[.slice Ao N N, .int .i64 E]) ∧ w'.ownsRow x.heap.size 3 1 (.slice Ao N N) N (ints xs) ∧ Below x.heap.size x w'
set_option maxHeartbeats 2000000
set_option maxRecDepth 100000
theorem order_both (L : List Ru) (hin : ∀ r ∈ L, r.In) (hl : L.length ≤ 2000) : ∃ (N : Nat) (xs : List Int), xs.length = N ∧ N ≤ 256 ∧
    (∀ (A : Option Addr) (c : Nat) (x : World), Tabs x → At x.heap.size x A (rus L) → Calls Tryd.prog 12 #[.slice A L.length c] x (OrdU N (chkE L) xs x)) ∧
    (∀ (A : Option Addr) (c : Nat) (x : World), Tabs x → At x.heap.size x A (rus L) → Calls Tryd.prog 15 #[.slice A L.length c] x (OrdU N (chkE L) xs x)) := by
  by_cases hc : chkE L = 0
  · refine ⟨L.length, ordI L, by unfold ordI; rw [List.length_map]; exact ordN_len L, chk_len hc, fun A c x hT hA => ?_, fun A c x hT hA => ?_⟩
    · rw [hc]
      exact (Order_ok x.heap.size A c L hin x hT hA (Nat.le_refl _) hc).mono fun e w' ⟨g, h1, h2, h3⟩ => ⟨_, h1, h2, h3⟩
    · rw [hc]
      exact (rOrder_ok x.heap.size A c L hin x hT hA (Nat.le_refl _) hc).mono fun e w' ⟨g, h1, h2, h3⟩ => ⟨_, h1, h2, h3⟩
  · refine ⟨0, [], rfl, by omega, fun A c x hT hA => ?_, fun A c x hT hA => ?_⟩
    · exact (Order_bad x.heap.size A c L hin x hT hA (Nat.le_refl _) (by omega) hc).mono fun e w' ⟨h1, h3⟩ => ⟨none, h1, World.ownsRow_nil _ _ _ _, h3⟩
    · exact (rOrder_bad x.heap.size A c L hin x hT hA (Nat.le_refl _) (by omega) hc).mono fun e w' ⟨h1, h3⟩ => ⟨none, h1, World.ownsRow_nil _ _ _ _, h3⟩
theorem look_both (L : List Ru) (hin : ∀ r ∈ L, r.In) (hl : L.length ≤ 2000) (kind st : Nat) (hst : st < 256) (cls : ByteArray) (hs : cls.size ≤ 5000) : ∃ u : Lk,
    (∀ (A : Option Addr) (c : Nat) (x : World), Tabs x → At x.heap.size x A (rus L) → Calls Tryd.prog 13 #[.slice A L.length c, .int .u8 (kind : Int), .string cls, .int .u8 (st : Int)] x fun e w' => e = .returned (.tuple #[.agg #[.int .u8 (u.has : Int), .int .u8 (u.col.r : Int), .int .u8 (u.col.g : Int), .int .u8 (u.col.b : Int), .int .u8 (u.col.a : Int), .int .u8 (u.bak.r : Int), .int .u8 (u.bak.g : Int), .int .u8 (u.bak.b : Int), .int .u8 (u.bak.a : Int), .bool u.brd, .int .i64 u.pad], .int .i64 (chkE L)]) ∧ Below x.heap.size x w') ∧
    (∀ (A : Option Addr) (c : Nat) (x : World), Tabs x → At x.heap.size x A (rus L) → Calls Tryd.prog 16 #[.slice A L.length c, .int .u8 (kind : Int), .string cls, .int .u8 (st : Int)] x fun e w' => e = .returned (.tuple #[.agg #[.int .u8 (u.has : Int), .int .u8 (u.col.r : Int), .int .u8 (u.col.g : Int), .int .u8 (u.col.b : Int), .int .u8 (u.col.a : Int), .int .u8 (u.bak.r : Int), .int .u8 (u.bak.g : Int), .int .u8 (u.bak.b : Int), .int .u8 (u.bak.a : Int), .bool u.brd, .int .i64 u.pad], .int .i64 (chkE L)]) ∧ Below x.heap.size x w') := by
  by_cases hc : chkE L = 0
  · refine ⟨foldO (fR L) (hR L kind cls.data.toList st) (ordN L) Lk.none, fun A c x hT hA => ?_, fun A c x hT hA => ?_⟩
    · rw [hc]
      exact Look_ok x.heap.size A c L hin x hT hA (Nat.le_refl _) kind st hst cls hs hc
    · rw [hc]
      exact rLook_ok x.heap.size A c L hin x hT hA (Nat.le_refl _) kind st hst cls hs hc
  · refine ⟨Lk.none, fun A c x hT hA => ?_, fun A c x hT hA => ?_⟩
    · exact Look_bad x.heap.size A c L hin x hT hA (Nat.le_refl _) (by omega) kind st cls hc
    · exact rLook_bad x.heap.size A c L hin x hT hA (Nat.le_refl _) (by omega) kind st cls hc
theorem which_both (L : List Ru) (hin : ∀ r ∈ L, r.In) (hl : L.length ≤ 2000) (kind st field : Nat) (hst : st < 256) (hfd : field < 256) (cls : ByteArray) (hs : cls.size ≤ 5000) : ∃ n E : Int,
    (∀ (A : Option Addr) (c : Nat) (x : World), Tabs x → At x.heap.size x A (rus L) → Calls Tryd.prog 14 #[.slice A L.length c, .int .u8 (kind : Int), .string cls, .int .u8 (st : Int), .int .u8 (field : Int)] x fun e w' => e = .returned (.tuple #[.int .i64 n, .int .i64 E]) ∧ Below x.heap.size x w') ∧
    (∀ (A : Option Addr) (c : Nat) (x : World), Tabs x → At x.heap.size x A (rus L) → Calls Tryd.prog 17 #[.slice A L.length c, .int .u8 (kind : Int), .string cls, .int .u8 (st : Int), .int .u8 (field : Int)] x fun e w' => e = .returned (.tuple #[.int .i64 n, .int .i64 E]) ∧ Below x.heap.size x w') := by
  by_cases hc : chkE L = 0
  · by_cases hf : FieldOk field
    · exact ⟨_, _, fun A c x hT hA => Which_ok x.heap.size A c L hin x hT hA (Nat.le_refl _) kind st field hst cls hs hc hf, fun A c x hT hA => rWhich_ok x.heap.size A c L hin x hT hA (Nat.le_refl _) kind st field hst hfd cls hs hc hf⟩
    · exact ⟨_, _, fun A c x hT hA => Which_arg x.heap.size A c L hin x hT hA (Nat.le_refl _) kind st field hst hfd cls hs hc hf, fun A c x hT hA => rWhich_arg x.heap.size A c L hin x hT hA (Nat.le_refl _) kind st field hst hfd cls hs hc hf⟩
  · exact ⟨_, _, fun A c x hT hA => Which_bad x.heap.size A c L hin x hT hA (Nat.le_refl _) kind st field hst hfd cls hs (by omega) hc, fun A c x hT hA => rWhich_bad x.heap.size A c L hin x hT hA (Nat.le_refl _) kind st field hst hfd cls hs (by omega) hc⟩

theorem blk_on {w w' : World} {k : Nat} {o : Obj} (h : w.heap[k]? = some o) (hb : Below w.heap.size w w') : w'.heap[k]? = some o := by rw [hb.block k (lt_of_block h)]; exact h
theorem own_alloc {w : World} {base : Nat} {e : TypeId} {size n : Nat} {v : Value} {xs : List Value} (h : w.ownsRow base e size v n xs) (o : Obj) : (w.alloc o).ownsRow base e size v n xs := own_below' h ((Below.refl _ _).alloc (Nat.le_refl _) o)
section
variable (w : World) (hT : Tabs w) (A : Option Addr) (c : Nat) (L : List Ru) (hin : ∀ r ∈ L, r.In) (hA : At w.heap.size w A (rus L)) (hnil : A = none → L.length = 0 ∧ c = 0) (hlc : L.length ≤ c) (hcm : c ≤ maxLen) (kind : Nat) (hk : kind < 256) (cls : ByteArray) (hs : cls.size ≤ 9223372036854775807) (st : Nat) (hst : st < 256) (field : Nat) (hfd : field < 256)
set_option linter.unusedSectionVars false
include hT hin hA hnil hlc hcm hk hs hst hfd
set_option maxHeartbeats 8000000
theorem rules_great (h : (60 < L.length ∧ L.length ≤ 256) ∨ 2000 < L.length ∨ 5000 < cls.size) : Calls Tryd.prog 3 #[.slice A L.length c, .int .u8 (kind : Int), .string cls, .int .u8 (st : Int), .int .u8 (field : Int)] w fun e w' => e = .returned (.bool true) ∧ Below w.heap.size w w' := by
  have CA := alive_any w hT
  have hcases : ((60 : Int) < (L.length : Int) ∧ (L.length : Int) ≤ 256) ∨ ((L.length : Int) ≤ 60 ∧ (5000 : Int) < (cls.size : Int)) ∨ ((60 : Int) < (L.length : Int) ∧ (256 : Int) < (L.length : Int) ∧ (2000 : Int) < (L.length : Int)) ∨ ((60 : Int) < (L.length : Int) ∧ (256 : Int) < (L.length : Int) ∧ (L.length : Int) ≤ 2000 ∧ (5000 : Int) < (cls.size : Int)) := by omega
  unfold maxLen at hcm
  clear hT hA hin h hnil
  rcases hcases with ⟨h1, h2⟩ | ⟨h1, h2⟩ | ⟨h1, h2, h3⟩ | ⟨h1, h2, h3, h4⟩
  all_goals (try have h5 : (L.length : Int) ≤ 2000 := by omega)
  all_goals
    go_enter Tryd.func3, Tryd.ntmps3
    go_wp2_with (go_at_call 10; refine CA.mono ?_; rintro e w1 ⟨rfl, hb1⟩)
    go_ret
    exact ⟨rfl, hb1⟩
theorem rules_ok (h1 : L.length ≤ 60 ∨ 256 < L.length) (h2 : L.length ≤ 2000) (h3 : cls.size ≤ 5000) : Calls Tryd.prog 3 #[.slice A L.length c, .int .u8 (kind : Int), .string cls, .int .u8 (st : Int), .int .u8 (field : Int)] w fun e w' => e = .returned (.bool true) ∧ Below w.heap.size w w' := by
  have CA := alive_any w hT
  have CL : Hid (∀ x, Below w.heap.size w x → Calls Tryd.prog 11 #[.slice A L.length c] x fun e w' => ∃ g c', e = .returned (.slice (some ⟨g, 0, none⟩) L.length c') ∧ L.length + 1 ≤ c' ∧ c' ≤ maxLen ∧
    w'.ownsRow x.heap.size 46 14 (.slice (some ⟨g, 0, none⟩) (L.length + 1) c') (L.length + 1) (rus (L ++ [mark77])) ∧ Below x.heap.size x w') := hid fun x hb => lent_any w.heap.size A c L x (hA.below hb) hb.size hnil h2
  obtain ⟨N, xs, hxs, hN, O1, O2⟩ := order_both L hin h2
  obtain ⟨u, K1, K2⟩ := look_both L hin h2 kind st hst cls h3
  obtain ⟨n, E3, W1, W2⟩ := which_both L hin h2 kind st field hst hfd cls h3
  have C1 : Hid (∀ (A : Option Addr) (c : Nat) (x : World), Tabs x → At x.heap.size x A (rus L) → Calls Tryd.prog 20 #[.slice A L.length c] x fun e w' => e = .returned (.int .i64 (chkE L)) ∧ Below x.heap.size x w') := hid fun A c x hT hA => Check_any x.heap.size A c L hin x hT hA (Nat.le_refl _) (by omega)
  have C2 : Hid (∀ (A : Option Addr) (c : Nat) (x : World), Tabs x → At x.heap.size x A (rus L) → Calls Tryd.prog 21 #[.slice A L.length c] x fun e w' => e = .returned (.int .i64 (chkE L)) ∧ Below x.heap.size x w') := hid fun A c x hT hA => rCheck_any x.heap.size A c L hin x hT hA (Nat.le_refl _) (by omega)
  have CKp : Hid (∀ (g cx : Nat) (x : World), At x.heap.size x A (rus L) → At x.heap.size x (some ⟨g, 0, none⟩) (rus (L ++ [mark77])) → L.length + 1 ≤ cx → cx ≤ maxLen → Calls Tryd.prog 19 #[.slice (some ⟨g, 0, none⟩) L.length cx, .slice A L.length c] x fun e w' => e = .returned (.bool true) ∧ Below x.heap.size x w') := hid fun g cx x h5 h6 h7 h8 => kept_any A c g cx L x h5 h6 h2 h7 h8
  have CN : Hid (∀ (P Q : Option Addr) (x : World), At x.heap.size x P (ints xs) → At x.heap.size x Q (ints xs) → Calls Tryd.prog 18 #[.slice P N N, .slice Q N N] x fun e w' => e = .returned (.bool true) ∧ Below x.heap.size x w') := hid fun P Q x h5 h6 => by rw [← hxs]; exact numbers_any xs P Q _ _ x h5 h6 (by omega)
  have hxt : Hid (∀ (g : Nat) (x : World), At x.heap.size x (some ⟨g, 0, none⟩) (rus (L ++ [mark77])) → At x.heap.size x (some ⟨g, 0, none⟩) (rus L)) := hid fun g x h => by
    have := h.takeR L.length
    rwa [List.take_append_of_le_length (Nat.le_refl _), List.take_length] at this
  have EU := lkEq_self u
  have HO1 := hid O1
  have HO2 := hid O2
  have HK1 := hid K1
  have HK2 := hid K2
  have HW1 := hid W1
  have HW2 := hid W2
  have HT := hid hT
  have HA := hid hA
  have HXS := hid hxs
  generalize hE : chkE L = E at *
  generalize hRL : rus (L ++ [mark77]) = RX at *
  generalize hRR : rus L = RL at *
  have hlc2 := hid hcm
  have hcase : ((L.length : Int) ≤ 60) ∨ ((60 : Int) < (L.length : Int) ∧ (256 : Int) < (L.length : Int)) := by omega
  generalize L.length = NL at *
  have z2 : (NL : Int) ≤ 2000 := by omega
  have z3 : (cls.size : Int) ≤ 5000 := by omega
  have z4 : (N : Int) ≤ 256 := by omega
  clear hT hin hA hnil O1 O2 K1 K2 W1 W2 hxs h1 hE hRL hRR
  unfold maxLen at hcm
  rcases hcase with t1 | ⟨t1, t2⟩
  all_goals
    go_enter Tryd.func3, Tryd.ntmps3
    go_wp2_with fail
    refine CA.mono ?_
    rintro e w1 ⟨rfl, hb1⟩
    have HB1 := hid hb1
    clear hb1 CA
    go_wp2_with fail
    refine (CL.out _ HB1.out).mono ?_
    rintro e w2 ⟨g, cx, rfl, hcx, hcxm, hown2, hb2⟩
    have HCX := hid (And.intro hcx hcxm)
    have H2 := hid (And.intro (HB1.out.trans (hb2.mono HB1.out.size)) (own_mono hown2 HB1.out.size))
    have hx1 : (NL : Int) ≤ (cx : Int) := by omega
    have hx2 : (cx : Int) ≤ 9223372036854775807 := by unfold maxLen at hcxm; omega
    clear hb2 hown2 hcx hcxm CL
    have KX : Hid (∀ y, Below w2.heap.size w2 y → Tabs y ∧ At y.heap.size y A RL ∧ At y.heap.size y (some ⟨g, 0, none⟩) RX ∧ Below w.heap.size w y) := hid fun y hb =>
      have hwy := H2.out.1.trans (hb.mono H2.out.1.size)
      have hoy := own_below' H2.out.2 hb
      ⟨tabs_on HT.out hwy, (HA.out.below hwy).mono hwy.size, by
        have q : w2.ownsRow w.heap.size 46 14 (.slice (some ⟨g, 0, none⟩) (NL + 1) (NL + 1)) (NL + 1) RX → True := fun _ => trivial
        exact At.of_own hoy, hwy⟩
    go_wp2_with fail
    obtain ⟨r1, r2, r3, r4⟩ := KX.out w2 (Below.refl _ _)
    refine (HO1.out _ cx w2 r1 (hxt.out _ _ r3)).mono ?_
    rintro e w3 ⟨Ao, rfl, hown3, hb3⟩
    have H3 := hid (And.intro hb3 hown3)
    clear r1 r2 r3 r4 hb3 hown3
    go_wp2_with fail
    obtain ⟨r1, r2, r3, r4⟩ := KX.out w3 H3.out.1
    refine (HK1.out _ cx w3 r1 (hxt.out _ _ r3)).mono ?_
    rintro e w4 ⟨rfl, hb4⟩
    have h4b := H3.out.1.trans (hb4.mono H3.out.1.size)
    have H4 := hid (And.intro (h4b.alloc h4b.size (.cells #[.int .u8 (u.has : Int), .int .u8 (u.col.r : Int), .int .u8 (u.col.g : Int), .int .u8 (u.col.b : Int), .int .u8 (u.col.a : Int), .int .u8 (u.bak.r : Int), .int .u8 (u.bak.g : Int), .int .u8 (u.bak.b : Int), .int .u8 (u.bak.a : Int), .bool u.brd, .int .i64 u.pad] 32)) (And.intro (own_alloc (own_below' H3.out.2 hb4) (.cells #[.int .u8 (u.has : Int), .int .u8 (u.col.r : Int), .int .u8 (u.col.g : Int), .int .u8 (u.col.b : Int), .int .u8 (u.col.a : Int), .int .u8 (u.bak.r : Int), .int .u8 (u.bak.g : Int), .int .u8 (u.bak.b : Int), .int .u8 (u.bak.a : Int), .bool u.brd, .int .i64 u.pad] 32)) (heap_alloc_new w4 (.cells #[.int .u8 (u.has : Int), .int .u8 (u.col.r : Int), .int .u8 (u.col.g : Int), .int .u8 (u.col.b : Int), .int .u8 (u.col.a : Int), .int .u8 (u.bak.r : Int), .int .u8 (u.bak.g : Int), .int .u8 (u.bak.b : Int), .int .u8 (u.bak.a : Int), .bool u.brd, .int .i64 u.pad] 32))))
    have s34 : w3.heap.size ≤ w4.heap.size := hb4.size
    have s4a : w4.heap.size ≤ (w4.alloc (.cells #[.int .u8 (u.has : Int), .int .u8 (u.col.r : Int), .int .u8 (u.col.g : Int), .int .u8 (u.col.b : Int), .int .u8 (u.col.a : Int), .int .u8 (u.bak.r : Int), .int .u8 (u.bak.g : Int), .int .u8 (u.bak.b : Int), .int .u8 (u.bak.a : Int), .bool u.brd, .int .i64 u.pad] 32)).heap.size := by simp
    clear r1 r2 r3 r4 hb4 h4b
    go_wp2_with fail
    generalize w4.alloc (.cells #[.int .u8 (u.has : Int), .int .u8 (u.col.r : Int), .int .u8 (u.col.g : Int), .int .u8 (u.col.b : Int), .int .u8 (u.col.a : Int), .int .u8 (u.bak.r : Int), .int .u8 (u.bak.g : Int), .int .u8 (u.bak.b : Int), .int .u8 (u.bak.a : Int), .bool u.brd, .int .i64 u.pad] 32) = w4a at *
    generalize w4.heap.size = bk at *
    obtain ⟨r1, r2, r3, r4⟩ := KX.out w4a H4.out.1
    refine (HW1.out _ cx w4a r1 (hxt.out _ _ r3)).mono ?_
    rintro e w5 ⟨rfl, hb5⟩
    have H5 := hid (And.intro (H4.out.1.trans (hb5.mono H4.out.1.size)) (And.intro (own_below' H4.out.2.1 hb5) (blk_on H4.out.2.2 hb5)))
    have s45 := hb5.size
    clear r1 r2 r3 r4 hb5
    go_wp2_with fail
    obtain ⟨r1, r2, r3, r4⟩ := KX.out w5 H5.out.1
    refine (HO1.out _ cx w5 r1 (hxt.out _ _ r3)).mono ?_
    rintro e w6 ⟨Ap, rfl, hown6, hb6⟩
    have H6 := hid (And.intro (H5.out.1.trans (hb6.mono H5.out.1.size)) (And.intro (own_below' H5.out.2.1 hb6) (And.intro (blk_on H5.out.2.2 hb6) (own_mono hown6 (Nat.le_trans s34 (Nat.le_trans s4a s45))))))
    have s56 := hb6.size
    clear r1 r2 r3 r4 hb6 hown6
    go_wp2_with fail
    obtain ⟨r1, r2, r3, r4⟩ := KX.out w6 H6.out.1
    refine (HO2.out A c w6 r1 r2).mono ?_
    rintro e w7 ⟨Aa, rfl, hown7, hb7⟩
    have H7 := hid (And.intro (H6.out.1.trans (hb7.mono H6.out.1.size)) (And.intro (own_below' H6.out.2.1 hb7) (And.intro (blk_on H6.out.2.2.1 hb7) (And.intro (own_below' H6.out.2.2.2 hb7) (own_mono hown7 (Nat.le_trans (Nat.le_trans s34 (Nat.le_trans s4a s45)) s56))))))
    have s67 := hb7.size
    clear r1 r2 r3 r4 hb7 hown7
    go_wp2_with fail
    obtain ⟨r1, r2, r3, r4⟩ := KX.out w7 H7.out.1
    refine (HK2.out A c w7 r1 r2).mono ?_
    rintro e w8 ⟨rfl, hb8⟩
    have h8b := H7.out.1.trans (hb8.mono H7.out.1.size)
    have H8 := hid (And.intro (h8b.alloc h8b.size (.cells #[.int .u8 (u.has : Int), .int .u8 (u.col.r : Int), .int .u8 (u.col.g : Int), .int .u8 (u.col.b : Int), .int .u8 (u.col.a : Int), .int .u8 (u.bak.r : Int), .int .u8 (u.bak.g : Int), .int .u8 (u.bak.b : Int), .int .u8 (u.bak.a : Int), .bool u.brd, .int .i64 u.pad] 32)) (And.intro (own_alloc (own_below' H7.out.2.1 hb8) (.cells #[.int .u8 (u.has : Int), .int .u8 (u.col.r : Int), .int .u8 (u.col.g : Int), .int .u8 (u.col.b : Int), .int .u8 (u.col.a : Int), .int .u8 (u.bak.r : Int), .int .u8 (u.bak.g : Int), .int .u8 (u.bak.b : Int), .int .u8 (u.bak.a : Int), .bool u.brd, .int .i64 u.pad] 32)) (And.intro (blk_on (blk_on H7.out.2.2.1 hb8) ((Below.refl _ _).alloc (Nat.le_refl _) (.cells #[.int .u8 (u.has : Int), .int .u8 (u.col.r : Int), .int .u8 (u.col.g : Int), .int .u8 (u.col.b : Int), .int .u8 (u.col.a : Int), .int .u8 (u.bak.r : Int), .int .u8 (u.bak.g : Int), .int .u8 (u.bak.b : Int), .int .u8 (u.bak.a : Int), .bool u.brd, .int .i64 u.pad] 32))) (And.intro (own_alloc (own_below' H7.out.2.2.2.1 hb8) (.cells #[.int .u8 (u.has : Int), .int .u8 (u.col.r : Int), .int .u8 (u.col.g : Int), .int .u8 (u.col.b : Int), .int .u8 (u.col.a : Int), .int .u8 (u.bak.r : Int), .int .u8 (u.bak.g : Int), .int .u8 (u.bak.b : Int), .int .u8 (u.bak.a : Int), .bool u.brd, .int .i64 u.pad] 32)) (And.intro (own_alloc (own_below' H7.out.2.2.2.2 hb8) (.cells #[.int .u8 (u.has : Int), .int .u8 (u.col.r : Int), .int .u8 (u.col.g : Int), .int .u8 (u.col.b : Int), .int .u8 (u.col.a : Int), .int .u8 (u.bak.r : Int), .int .u8 (u.bak.g : Int), .int .u8 (u.bak.b : Int), .int .u8 (u.bak.a : Int), .bool u.brd, .int .i64 u.pad] 32)) (heap_alloc_new w8 (.cells #[.int .u8 (u.has : Int), .int .u8 (u.col.r : Int), .int .u8 (u.col.g : Int), .int .u8 (u.col.b : Int), .int .u8 (u.col.a : Int), .int .u8 (u.bak.r : Int), .int .u8 (u.bak.g : Int), .int .u8 (u.bak.b : Int), .int .u8 (u.bak.a : Int), .bool u.brd, .int .i64 u.pad] 32)))))))
    have s78 : w7.heap.size ≤ w8.heap.size := hb8.size
    clear r1 r2 r3 r4 hb8 h8b
    go_wp2_with fail
    generalize w8.alloc (.cells #[.int .u8 (u.has : Int), .int .u8 (u.col.r : Int), .int .u8 (u.col.g : Int), .int .u8 (u.col.b : Int), .int .u8 (u.col.a : Int), .int .u8 (u.bak.r : Int), .int .u8 (u.bak.g : Int), .int .u8 (u.bak.b : Int), .int .u8 (u.bak.a : Int), .bool u.brd, .int .i64 u.pad] 32) = w8a at *
    generalize w8.heap.size = bb at *
    obtain ⟨r1, r2, r3, r4⟩ := KX.out w8a H8.out.1
    refine (HW2.out A c w8a r1 r2).mono ?_
    rintro e w9 ⟨rfl, hb9⟩
    have H9 := hid (And.intro (H8.out.1.trans (hb9.mono H8.out.1.size)) (And.intro (own_below' H8.out.2.1 hb9) (And.intro (blk_on H8.out.2.2.1 hb9) (And.intro (own_below' H8.out.2.2.2.1 hb9) (And.intro (own_below' H8.out.2.2.2.2.1 hb9) (blk_on H8.out.2.2.2.2.2 hb9))))))
    clear r1 r2 r3 r4 hb9
    go_wp2_with fail
    refine (CN.out Ao Aa w9 (At.of_own H9.out.2.1) (At.of_own H9.out.2.2.2.2.1)).mono ?_
    rintro e w10 ⟨rfl, hb10⟩
    have H10 := hid (And.intro (H9.out.1.trans (hb10.mono H9.out.1.size)) (And.intro (own_below' H9.out.2.1 hb10) (And.intro (blk_on H9.out.2.2.1 hb10) (And.intro (own_below' H9.out.2.2.2.1 hb10) (And.intro (own_below' H9.out.2.2.2.2.1 hb10) (blk_on H9.out.2.2.2.2.2 hb10))))))
    have hOlt := hid (own_lt H3.out.2 (Nat.le_refl _))
    have hbk : w3.heap.size ≤ bk := s34
    have hbb : w3.heap.size ≤ bb := by omega
    clear hb10
    clear HK1 HK2 HW1 HW2 HO1 HO2 H4 H5 H6 H7 H8 H9 s34 s4a s45 s56 s67 s78
    go_wp2_with fail
    go_loopg [28] N (fun gh v28 wr => ∃ (k : Nat) (M : List Int), v28 = .int .i64 k ∧ k ≤ N ∧ N - k ≤ gh ∧ Hid (M.length = N) ∧ Hid (Below w2.heap.size w2 wr ∧ wr.ownsRow w2.heap.size 3 1 (.slice Ao N N) N (ints M) ∧ wr.heap[bk]? = some (.cells #[.int .u8 (u.has : Int), .int .u8 (u.col.r : Int), .int .u8 (u.col.g : Int), .int .u8 (u.col.b : Int), .int .u8 (u.col.a : Int), .int .u8 (u.bak.r : Int), .int .u8 (u.bak.g : Int), .int .u8 (u.bak.b : Int), .int .u8 (u.bak.a : Int), .bool u.brd, .int .i64 u.pad] 32 (0, 0)) ∧ wr.ownsRow w3.heap.size 3 1 (.slice Ap N N) N (ints xs) ∧ wr.ownsRow w3.heap.size 3 1 (.slice Aa N N) N (ints xs) ∧ wr.heap[bb]? = some (.cells #[.int .u8 (u.has : Int), .int .u8 (u.col.r : Int), .int .u8 (u.col.g : Int), .int .u8 (u.col.b : Int), .int .u8 (u.col.a : Int), .int .u8 (u.bak.r : Int), .int .u8 (u.bak.g : Int), .int .u8 (u.bak.b : Int), .int .u8 (u.bak.a : Int), .bool u.brd, .int .i64 u.pad] 32 (0, 0))))
    case atStart => exact ⟨0, xs, rfl, by omega, by omega, HXS, H10⟩
    case round =>
      obtain ⟨k, M, rfl, hkN, hgk, HM, HI⟩ := hrel
      by_cases hlt : k < N
      · have hli : (k : Int) < (N : Int) := by omega
        obtain ⟨go, rfl, hgo1, hgo2⟩ := own_head HI.out.2.1 (by omega)
        have hgo3 : go < w3.heap.size := hOlt.out go rfl
        have n0 := HI.out.2.1.cellAt k (by omega)
        rw [ints_at _ k (by rw [HM.out]; exact hlt)] at n0
        have tf := HI.out.2.1.frozenAt k
        have hso := own_store HI.out.2.1 k (.int .i64 (-9))
        rw [ints_set] at hso
        have hbo := HI.out.1.setCell (p := ⟨go, k, none⟩) hgo1 (.int .i64 (-9))
        have hp := own_off HI.out.2.2.2.1 (g := go) (j := k) (u := .int .i64 (-9)) (fun e => by have := own_ge HI.out.2.2.2.1 go e; omega)
        have hq := own_off HI.out.2.2.2.2.1 (g := go) (j := k) (u := .int .i64 (-9)) (fun e => by have := own_ge HI.out.2.2.2.2.1 go e; omega)
        have hk1 : (wr.setCell ⟨go, k, none⟩ (.int .i64 (-9))).heap[bk]? = some (.cells #[.int .u8 (u.has : Int), .int .u8 (u.col.r : Int), .int .u8 (u.col.g : Int), .int .u8 (u.col.b : Int), .int .u8 (u.col.a : Int), .int .u8 (u.bak.r : Int), .int .u8 (u.bak.g : Int), .int .u8 (u.bak.b : Int), .int .u8 (u.bak.a : Int), .bool u.brd, .int .i64 u.pad] 32 (0, 0)) := (heap_setCell_other wr ⟨go, k, none⟩ bk (.int .i64 (-9)) (show bk ≠ go by omega)).trans HI.out.2.2.1
        have hk2 : (wr.setCell ⟨go, k, none⟩ (.int .i64 (-9))).heap[bb]? = some (.cells #[.int .u8 (u.has : Int), .int .u8 (u.col.r : Int), .int .u8 (u.col.g : Int), .int .u8 (u.col.b : Int), .int .u8 (u.col.a : Int), .int .u8 (u.bak.r : Int), .int .u8 (u.bak.g : Int), .int .u8 (u.bak.b : Int), .int .u8 (u.bak.a : Int), .bool u.brd, .int .i64 u.pad] 32 (0, 0)) := (heap_setCell_other wr ⟨go, k, none⟩ bb (.int .i64 (-9)) (show bb ≠ go by omega)).trans HI.out.2.2.2.2.2
        have HW := hid (And.intro hbo (And.intro hso (And.intro hk1 (And.intro hp (And.intro hq hk2)))))
        have HMs : Hid ((M.set k (-9)).length = N) := hid (by rw [List.length_set]; exact HM.out)
        clear hbo hso hk1 hk2 hp hq
        generalize M[k]'(by rw [HM.out]; exact hlt) = y at *
        go_wp2
        go_roundg (N - (k + 1))
        case measure => omega
        case rel => exact ⟨k + 1, _, by go_num, by omega, by omega, HMs, HW⟩
      · have hlt' : ¬ ((k : Int) < (N : Int)) := by omega
        obtain ⟨r1, r2, r3, r4⟩ := KX.out wr HI.out.1
        have HR := hid (And.intro r1 (And.intro r2 (And.intro r3 r4)))
        clear r1 r2 r3 r4 H10 H3
        go_wp2_with fail
        refine (CN.out Ap Aa wr (At.of_own HI.out.2.2.2.1) (At.of_own HI.out.2.2.2.2.1)).mono ?_
        rintro e w11 ⟨rfl, hb11⟩
        have H11 := hid (And.intro (HI.out.1.trans (hb11.mono HI.out.1.size)) (And.intro (blk_on HI.out.2.2.1 hb11) (blk_on HI.out.2.2.2.2.2 hb11)))
        clear hb11 HI HR HM CN
        go_wp2_with fail
        obtain ⟨r1, r2, r3, r4⟩ := KX.out w11 H11.out.1
        refine (CKp.out g cx w11 r2 r3 HCX.out.1 HCX.out.2).mono ?_
        rintro e w12 ⟨rfl, hb12⟩
        have H12 := hid (H11.out.1.trans (hb12.mono H11.out.1.size))
        have k1 := blk_on H11.out.2.1 hb12
        have k2 := blk_on H11.out.2.2 hb12
        have l1 := lt_of_block k1
        have l2 := lt_of_block k2
        clear r1 r2 r3 r4 hb12 CKp HCX H11
        have KY : Hid (∀ y, Below w12.heap.size w12 y → Tabs y ∧ At y.heap.size y A RL ∧ At y.heap.size y (some ⟨g, 0, none⟩) RL) := hid fun y hb =>
          have q := KX.out y (H12.out.trans (hb.mono H12.out.size))
          ⟨q.1, q.2.1, hxt.out _ _ q.2.2.1⟩
        have D1 : ∀ y, Below w12.heap.size w12 y → Calls Tryd.prog 20 #[.slice (some ⟨g, 0, none⟩) NL cx] y fun e w' => e = .returned (.int .i64 E) ∧ Below y.heap.size y w' := fun y hb => C1.out _ cx y (KY.out y hb).1 (KY.out y hb).2.2
        have D2 : ∀ y, Below w12.heap.size w12 y → Calls Tryd.prog 21 #[.slice A NL c] y fun e w' => e = .returned (.int .i64 E) ∧ Below y.heap.size y w' := fun y hb => C2.out _ c y (KY.out y hb).1 (KY.out y hb).2.1
        have HBF := hid ((KX.out w12 H12.out).2.2.2)
        clear KX KY C1 C2 hxt H2 HA HT HB1
        have c0 : w12.cell? ⟨bk, 0, none⟩ = some (.int .u8 (u.has : Int)) := by rw [blk_cell k1]; rfl
        have c1 : w12.cell? ⟨bk, 1, none⟩ = some (.int .u8 (u.col.r : Int)) := by rw [blk_cell k1]; rfl
        have c2 : w12.cell? ⟨bk, 2, none⟩ = some (.int .u8 (u.col.g : Int)) := by rw [blk_cell k1]; rfl
        have c3 : w12.cell? ⟨bk, 3, none⟩ = some (.int .u8 (u.col.b : Int)) := by rw [blk_cell k1]; rfl
        have c4 : w12.cell? ⟨bk, 4, none⟩ = some (.int .u8 (u.col.a : Int)) := by rw [blk_cell k1]; rfl
        have c5 : w12.cell? ⟨bk, 5, none⟩ = some (.int .u8 (u.bak.r : Int)) := by rw [blk_cell k1]; rfl
        have c6 : w12.cell? ⟨bk, 6, none⟩ = some (.int .u8 (u.bak.g : Int)) := by rw [blk_cell k1]; rfl
        have c7 : w12.cell? ⟨bk, 7, none⟩ = some (.int .u8 (u.bak.b : Int)) := by rw [blk_cell k1]; rfl
        have c8 : w12.cell? ⟨bk, 8, none⟩ = some (.int .u8 (u.bak.a : Int)) := by rw [blk_cell k1]; rfl
        have c9 : w12.cell? ⟨bk, 9, none⟩ = some (.bool u.brd) := by rw [blk_cell k1]; rfl
        have c10 : w12.cell? ⟨bk, 10, none⟩ = some (.int .i64 u.pad) := by rw [blk_cell k1]; rfl
        have d0 : w12.cell? ⟨bb, 0, none⟩ = some (.int .u8 (u.has : Int)) := by rw [blk_cell k2]; rfl
        have d1 : w12.cell? ⟨bb, 1, none⟩ = some (.int .u8 (u.col.r : Int)) := by rw [blk_cell k2]; rfl
        have d2 : w12.cell? ⟨bb, 2, none⟩ = some (.int .u8 (u.col.g : Int)) := by rw [blk_cell k2]; rfl
        have d3 : w12.cell? ⟨bb, 3, none⟩ = some (.int .u8 (u.col.b : Int)) := by rw [blk_cell k2]; rfl
        have d4 : w12.cell? ⟨bb, 4, none⟩ = some (.int .u8 (u.col.a : Int)) := by rw [blk_cell k2]; rfl
        have d5 : w12.cell? ⟨bb, 5, none⟩ = some (.int .u8 (u.bak.r : Int)) := by rw [blk_cell k2]; rfl
        have d6 : w12.cell? ⟨bb, 6, none⟩ = some (.int .u8 (u.bak.g : Int)) := by rw [blk_cell k2]; rfl
        have d7 : w12.cell? ⟨bb, 7, none⟩ = some (.int .u8 (u.bak.b : Int)) := by rw [blk_cell k2]; rfl
        have d8 : w12.cell? ⟨bb, 8, none⟩ = some (.int .u8 (u.bak.a : Int)) := by rw [blk_cell k2]; rfl
        have d9 : w12.cell? ⟨bb, 9, none⟩ = some (.bool u.brd) := by rw [blk_cell k2]; rfl
        have d10 : w12.cell? ⟨bb, 10, none⟩ = some (.int .i64 u.pad) := by rw [blk_cell k2]; rfl
        clear k1 k2 l1 l2
        go_wp2_with fail
        refine (D1 w12 (Below.refl _ _)).mono ?_
        rintro e w13 ⟨rfl, hb13⟩
        go_wp2_with fail
        refine (D2 w13 hb13).mono ?_
        rintro e w14 ⟨rfl, hb14⟩
        have HZ := hid (HBF.out.trans ((hb13.trans (hb14.mono hb13.size)).mono HBF.out.size))
        clear hb13 hb14 D1 D2
        go_wp2
        go_ret
        exact ⟨rfl, HZ.out⟩
theorem walkStyleRules : Calls Tryd.prog 3 #[.slice A L.length c, .int .u8 (kind : Int), .string cls, .int .u8 (st : Int), .int .u8 (field : Int)] w fun e w' => e = .returned (.bool true) ∧ Below w.heap.size w w' := by
  by_cases h : (60 < L.length ∧ L.length ≤ 256) ∨ 2000 < L.length ∨ 5000 < cls.size
  · exact rules_great w hT A c L hin hA hnil hlc hcm kind hk cls hs st hst field hfd h
  · exact rules_ok w hT A c L hin hA hnil hlc hcm kind hk cls hs st hst field hfd (by omega) (by omega) (by omega)
end
end Go.Proofs.YtoiondgcjbdonaaDoor
