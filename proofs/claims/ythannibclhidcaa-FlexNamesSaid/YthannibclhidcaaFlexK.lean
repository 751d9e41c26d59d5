/- Layer 10: the law FlexNames. Printed by gen_k.py. -/
import Derived.Test.YthannibclhidcaaFlexJ
namespace Go.Proofs.Ythannibclhidcaa
set_option linter.unusedVariables false
set_option linter.unusedSimpArgs false
open Go.RowKit
attribute [local go_sem] max_fold min_fold

theorem t3s_zero (n : Nat) : t3s (List.replicate n ⟨0, 0, 0⟩) = List.replicate (n * 3) (.int .i64 0) := by
  induction n with
  | zero => rfl
  | succ n ih =>
    rw [show (n + 1) * 3 = n * 3 + 1 + 1 + 1 by omega]
    simp only [List.replicate_succ, t3s, ih]
theorem made_three (v : Value) (n : Nat) : (madeCells #[v, v, v] n).toList = List.replicate n v := by
  apply List.ext_getElem
  · simp [madeCells]
  · intro i h1 h2
    have h3 : i % 3 < 3 := Nat.mod_lt _ (by omega)
    simp only [madeCells, Array.getElem_toList, Array.getElem_map, Array.getElem_range, List.getElem_replicate]
    have : i % 3 = 0 ∨ i % 3 = 1 ∨ i % 3 = 2 := by omega
    rcases this with h | h | h <;> simp [h]
section
variable {ops : Array Oper} {rest : List Oper} {o : Oper} {a : Act} {Q : Exit → Act → World → Prop} {w : World}
theorem make_tracks (hgd : o.guard = none) (l c : Operand) (ho : o.op = Op.makeSlice 23 l c) (base n : Nat) (hl : a.eval l = .int .i64 (n : Int)) (hc : a.eval c = .int .i64 (n : Int)) (hn : n ≤ 1000000) (hbase : base ≤ w.heap.size)
    (h : ∀ w', w'.ownsRow base 39 3 (.slice (some ⟨w.heap.size, 0, none⟩) n n) n (t3s (List.replicate n ⟨0, 0, 0⟩)) → w.grownBy w' none → wpList Try.prog ops Q rest (a.put o.dst (.slice (some ⟨w.heap.size, 0, none⟩) n n)) w') : wpList Try.prog ops Q (o :: rest) a w := by
  obtain ⟨i0, hi, hz0, hz1, hz2⟩ := info_parts info_track
  refine wpList_make_full w hgd l c 23 ho base 39 i0 _ 3 Try.underlying23 hi hz0 hz1 .i64 .i64 _ _ n hl hc rfl rfl (by rw [hz2]; omega) (by unfold maxLen; omega) hbase (fun w' h4 h5 => ?_)
  refine h w' ?_ h5
  rw [t3s_zero, ← made_three]
  exact h4
end

set_option maxRecDepth 100000 in
set_option maxHeartbeats 4000000 in
theorem walkFlexNames (w : World) : Calls Try.prog 7 #[] w fun e w' => e = .returned (.bool true) ∧ Below w.heap.size w w' := by
  go_enter Try.func7, Try.ntmps7
  have b0 := Below.refl w.heap.size w
  go_wp2_with fail
  refine (t_any _ _ _ _).mono ?_
  rintro e w1 ⟨rfl, h1⟩
  have b1 := (belowOn b0 h1)
  clear b0
  go_wp2_with fail
  refine (t_any _ _ _ _).mono ?_
  rintro e w2 ⟨rfl, h2⟩
  have b2 := (belowOn b1 h2)
  clear b1
  go_wp2_with fail
  refine (Share_lit [⟨2, 0, 1⟩, ⟨3, 0, 1⟩] 11 [5, 6] 0 2 2 rfl rfl (by decide +kernel) (by decide +kernel) (by decide) w2).mono ?_
  rintro e w3 ⟨Aa, ca, rfl, la, h3⟩
  have b3 := (belowOn b2 h3)
  clear b2
  go_wp2_with fail
  refine (t_any _ _ _ _).mono ?_
  rintro e w4 ⟨rfl, h4⟩
  have b4 := (belowOn b3 h4)
  replace la := la.on h4
  clear b3
  go_wp2_with fail
  refine (t_any _ _ _ _).mono ?_
  rintro e w5 ⟨rfl, h5⟩
  have b5 := (belowOn b4 h5)
  replace la := la.on h5
  clear b4
  go_wp2_with fail
  refine (Share_lit [⟨2, 0, 0⟩, ⟨3, 0, 1⟩] 9 [2, 7] 0 2 2 rfl rfl (by decide +kernel) (by decide +kernel) (by decide) w5).mono ?_
  rintro e w6 ⟨Ab, cb, rfl, lb, h6⟩
  have b6 := (belowOn b5 h6)
  replace la := la.on h6
  clear b5
  go_wp2_with fail
  refine (t_any _ _ _ _).mono ?_
  rintro e w7 ⟨rfl, h7⟩
  have b7 := (belowOn b6 h7)
  replace la := la.on h7
  replace lb := lb.on h7
  clear b6
  go_wp2_with fail
  refine (t_any _ _ _ _).mono ?_
  rintro e w8 ⟨rfl, h8⟩
  have b8 := (belowOn b7 h8)
  replace la := la.on h8
  replace lb := lb.on h8
  clear b7
  go_wp2_with fail
  refine (t_any _ _ _ _).mono ?_
  rintro e w9 ⟨rfl, h9⟩
  have b9 := (belowOn b8 h9)
  replace la := la.on h9
  replace lb := lb.on h9
  clear b8
  go_wp2_with fail
  refine (Share_lit [⟨0, 2, 1⟩, ⟨0, 0, 1⟩, ⟨0, 0, 2⟩] 11 [2, 3, 6] 0 3 3 rfl rfl (by decide +kernel) (by decide +kernel) (by decide) w9).mono ?_
  rintro e w10 ⟨Ac, cc, rfl, lc, h10⟩
  have b10 := (belowOn b9 h10)
  replace la := la.on h10
  replace lb := lb.on h10
  clear b9
  go_wp2_with fail
  refine (t_any _ _ _ _).mono ?_
  rintro e w11 ⟨rfl, h11⟩
  have b11 := (belowOn b10 h11)
  replace la := la.on h11
  replace lb := lb.on h11
  replace lc := lc.on h11
  clear b10
  go_wp2_with fail
  refine (t_any _ _ _ _).mono ?_
  rintro e w12 ⟨rfl, h12⟩
  have b12 := (belowOn b11 h12)
  replace la := la.on h12
  replace lb := lb.on h12
  replace lc := lc.on h12
  clear b11
  go_wp2_with fail
  refine (Share_lit [⟨0, 2, 1⟩, ⟨0, 3, 5⟩] 20 [2, 3] 0 2 2 rfl rfl (by decide +kernel) (by decide +kernel) (by decide) w12).mono ?_
  rintro e w13 ⟨Ad, cd, rfl, ld, h13⟩
  have b13 := (belowOn b12 h13)
  replace la := la.on h13
  replace lb := lb.on h13
  replace lc := lc.on h13
  clear b12
  go_wp2_with fail
  refine (t_any _ _ _ _).mono ?_
  rintro e w14 ⟨rfl, h14⟩
  have b14 := (belowOn b13 h14)
  replace la := la.on h14
  replace lb := lb.on h14
  replace lc := lc.on h14
  replace ld := ld.on h14
  clear b13
  go_wp2_with fail
  refine (t_any _ _ _ _).mono ?_
  rintro e w15 ⟨rfl, h15⟩
  have b15 := (belowOn b14 h15)
  replace la := la.on h15
  replace lb := lb.on h15
  replace lc := lc.on h15
  replace ld := ld.on h15
  clear b14
  go_wp2_with fail
  refine (Share_lit [⟨4, 0, 1⟩, ⟨5, 0, 9⟩] 6 [4, 5] 0 2 2 rfl rfl (by decide +kernel) (by decide +kernel) (by decide) w15).mono ?_
  rintro e w16 ⟨Af, cf, rfl, lf, h16⟩
  have b16 := (belowOn b15 h16)
  replace la := la.on h16
  replace lb := lb.on h16
  replace lc := lc.on h16
  replace ld := ld.on h16
  clear b15
  go_wp2_with fail
  refine (t_any _ _ _ _).mono ?_
  rintro e w17 ⟨rfl, h17⟩
  have b17 := (belowOn b16 h17)
  replace la := la.on h17
  replace lb := lb.on h17
  replace lc := lc.on h17
  replace ld := ld.on h17
  replace lf := lf.on h17
  clear b16
  go_wp2_with fail
  refine (t_any _ _ _ _).mono ?_
  rintro e w18 ⟨rfl, h18⟩
  have b18 := (belowOn b17 h18)
  replace la := la.on h18
  replace lb := lb.on h18
  replace lc := lc.on h18
  replace ld := ld.on h18
  replace lf := lf.on h18
  clear b17
  go_wp2_with fail
  refine (t_any _ _ _ _).mono ?_
  rintro e w19 ⟨rfl, h19⟩
  have b19 := (belowOn b18 h19)
  replace la := la.on h19
  replace lb := lb.on h19
  replace lc := lc.on h19
  replace ld := ld.on h19
  replace lf := lf.on h19
  clear b18
  go_wp2_with fail
  refine (Share_lit [⟨0, 0, 1⟩, ⟨0, 0, 1⟩, ⟨0, 0, 1⟩] 5 [2, 2, 1] 0 3 3 rfl rfl (by decide +kernel) (by decide +kernel) (by decide) w19).mono ?_
  rintro e w20 ⟨Ag, cg, rfl, lg, h20⟩
  have b20 := (belowOn b19 h20)
  replace la := la.on h20
  replace lb := lb.on h20
  replace lc := lc.on h20
  replace ld := ld.on h20
  replace lf := lf.on h20
  clear b19
  go_wp2_with fail
  refine (t_any _ _ _ _).mono ?_
  rintro e w21 ⟨rfl, h21⟩
  have b21 := (belowOn b20 h21)
  replace la := la.on h21
  replace lb := lb.on h21
  replace lc := lc.on h21
  replace ld := ld.on h21
  replace lf := lf.on h21
  replace lg := lg.on h21
  clear b20
  go_wp2_with fail
  refine (Share_lit [⟨5, 4, 0⟩] 9 [] 100 1 0 rfl rfl (by decide +kernel) (by decide +kernel) (by decide) w21).mono ?_
  rintro e w22 ⟨Ax, cx, rfl, lx, h22⟩
  have b22 := (belowOn b21 h22)
  replace la := la.on h22
  replace lb := lb.on h22
  replace lc := lc.on h22
  replace ld := ld.on h22
  replace lf := lf.on h22
  replace lg := lg.on h22
  clear b21
  go_wp2_with fail
  refine (Share_no w22).mono ?_
  rintro e w23 ⟨Ay, cy, rfl, h23⟩
  have b23 := (belowOn b22 h23)
  replace la := la.on h23
  replace lb := lb.on h23
  replace lc := lc.on h23
  replace ld := ld.on h23
  replace lf := lf.on h23
  replace lg := lg.on h23
  clear b22
  go_wp2_with fail
  refine (t_any _ _ _ _).mono ?_
  rintro e w24 ⟨rfl, h24⟩
  have b24 := (belowOn b23 h24)
  replace la := la.on h24
  replace lb := lb.on h24
  replace lc := lc.on h24
  replace ld := ld.on h24
  replace lf := lf.on h24
  replace lg := lg.on h24
  clear b23
  go_wp2_with fail
  refine (t_any _ _ _ _).mono ?_
  rintro e w25 ⟨rfl, h25⟩
  have b25 := (belowOn b24 h25)
  replace la := la.on h25
  replace lb := lb.on h25
  replace lc := lc.on h25
  replace ld := ld.on h25
  replace lf := lf.on h25
  replace lg := lg.on h25
  clear b24
  go_wp2_with fail
  refine (Need_lit [⟨2, 0, 1⟩, ⟨3, 9, 0⟩] 5 0 2 rfl (by decide +kernel) (by decide +kernel) (by decide) w25).mono ?_
  rintro e w26 ⟨rfl, h26⟩
  have b26 := (belowOn b25 h26)
  replace la := la.on h26
  replace lb := lb.on h26
  replace lc := lc.on h26
  replace ld := ld.on h26
  replace lf := lf.on h26
  replace lg := lg.on h26
  clear b25
  go_wp2_with fail
  refine (t_any _ _ _ _).mono ?_
  rintro e w27 ⟨rfl, h27⟩
  have b27 := (belowOn b26 h27)
  replace la := la.on h27
  replace lb := lb.on h27
  replace lc := lc.on h27
  replace ld := ld.on h27
  replace lf := lf.on h27
  replace lg := lg.on h27
  clear b26
  go_wp2_with fail
  refine (t_any _ _ _ _).mono ?_
  rintro e w28 ⟨rfl, h28⟩
  have b28 := (belowOn b27 h28)
  replace la := la.on h28
  replace lb := lb.on h28
  replace lc := lc.on h28
  replace ld := ld.on h28
  replace lf := lf.on h28
  replace lg := lg.on h28
  clear b27
  go_wp2_with fail
  refine (Most_lit [⟨2, 0, 1⟩, ⟨3, 9, 0⟩] (-1) 0 2 rfl (by decide +kernel) (by decide +kernel) (by decide) w28).mono ?_
  rintro e w29 ⟨rfl, h29⟩
  have b29 := (belowOn b28 h29)
  replace la := la.on h29
  replace lb := lb.on h29
  replace lc := lc.on h29
  replace ld := ld.on h29
  replace lf := lf.on h29
  replace lg := lg.on h29
  clear b28
  go_wp2_with fail
  refine (t_any _ _ _ _).mono ?_
  rintro e w30 ⟨rfl, h30⟩
  have b30 := (belowOn b29 h30)
  replace la := la.on h30
  replace lb := lb.on h30
  replace lc := lc.on h30
  replace ld := ld.on h30
  replace lf := lf.on h30
  replace lg := lg.on h30
  clear b29
  go_wp2_with fail
  refine (t_any _ _ _ _).mono ?_
  rintro e w31 ⟨rfl, h31⟩
  have b31 := (belowOn b30 h31)
  replace la := la.on h31
  replace lb := lb.on h31
  replace lc := lc.on h31
  replace ld := ld.on h31
  replace lf := lf.on h31
  replace lg := lg.on h31
  clear b30
  go_wp2_with fail
  refine (Most_lit [⟨2, 5, 1⟩, ⟨3, 9, 0⟩] 8 0 2 rfl (by decide +kernel) (by decide +kernel) (by decide) w31).mono ?_
  rintro e w32 ⟨rfl, h32⟩
  have b32 := (belowOn b31 h32)
  replace la := la.on h32
  replace lb := lb.on h32
  replace lc := lc.on h32
  replace ld := ld.on h32
  replace lf := lf.on h32
  replace lg := lg.on h32
  clear b31
  go_wp2_with fail
  refine (Starts_lit [3, 0, 2] 1 [0, 4, 5] 0 3 3 rfl rfl (by decide +kernel) (by decide +kernel) (by decide) w32).mono ?_
  rintro e w33 ⟨As, cs, rfl, ls, h33⟩
  have b33 := (belowOn b32 h33)
  replace la := la.on h33
  replace lb := lb.on h33
  replace lc := lc.on h33
  replace ld := ld.on h33
  replace lf := lf.on h33
  replace lg := lg.on h33
  clear b32
  go_wp2_with fail
  refine (Starts_no w33).mono ?_
  rintro e w34 ⟨Az, cz, rfl, h34⟩
  have b34 := (belowOn b33 h34)
  replace la := la.on h34
  replace lb := lb.on h34
  replace lc := lc.on h34
  replace ld := ld.on h34
  replace lf := lf.on h34
  replace lg := lg.on h34
  replace ls := ls.on h34
  clear b33
  go_wp2_with fail
  refine (t_any _ _ _ _).mono ?_
  rintro e w35 ⟨rfl, h35⟩
  have b35 := (belowOn b34 h35)
  replace la := la.on h35
  replace lb := lb.on h35
  replace lc := lc.on h35
  replace ld := ld.on h35
  replace lf := lf.on h35
  replace lg := lg.on h35
  replace ls := ls.on h35
  clear b34
  go_wp2_with fail
  refine (t_any _ _ _ _).mono ?_
  rintro e w36 ⟨rfl, h36⟩
  have b36 := (belowOn b35 h36)
  replace la := la.on h36
  replace lb := lb.on h36
  replace lc := lc.on h36
  replace ld := ld.on h36
  replace lf := lf.on h36
  replace lg := lg.on h36
  replace ls := ls.on h36
  clear b35
  go_wp2_with fail
  refine (Row_lit [⟨1, 0, 1⟩, ⟨1, 0, 1⟩] 30 10 [1, 1] [0, 31] 0 2 2 rfl rfl rfl (by decide +kernel) (by decide +kernel) (by decide +kernel) (by decide) w36).mono ?_
  rintro e w37 ⟨Au, cu, Av, cv, rfl, lu, lv, h37⟩
  have b37 := (belowOn b36 h37)
  replace la := la.on h37
  replace lb := lb.on h37
  replace lc := lc.on h37
  replace ld := ld.on h37
  replace lf := lf.on h37
  replace lg := lg.on h37
  replace ls := ls.on h37
  clear b36
  go_wp2_with (first | (at_make; refine make_tracks rfl (.const (.int .i64 1025)) (.const (.int .i64 1025)) rfl w37.heap.size 1025 rfl rfl (by decide) (Nat.le_refl _) ?_))
  intro w38 om gm
  have h38 := (Below.refl w37.heap.size w37).grown gm (Nat.le_refl _) (fun k hk => by cases hk)
  have am := At.of_own om
  clear om gm
  have b38 := (belowOn b37 h38)
  replace la := la.on h38
  replace lb := lb.on h38
  replace lc := lc.on h38
  replace ld := ld.on h38
  replace lf := lf.on h38
  replace lg := lg.on h38
  replace ls := ls.on h38
  replace lu := lu.on h38
  replace lv := lv.on h38
  clear b37
  have hm : Calls Try.prog 22 #[.slice (some ⟨w37.heap.size, 0, none⟩) 1025 1025] w38 (fun x w' => x = .returned (.tuple #[.int .i64 0, .int .i64 4]) ∧ Below w38.heap.size w38 w') := by
    have h := need_any _ _ 1025 (List.replicate 1025 ⟨0, 0, 0⟩) _ am (Nat.le_refl _) (by simp)
    have e1 : chk (List.replicate 1025 ⟨0, 0, 0⟩) = 4 := by decide +kernel
    have e2 : needR (List.replicate 1025 ⟨0, 0, 0⟩) = 0 := by decide +kernel
    rw [e1, e2, List.length_replicate] at h
    exact h
  clear am
  go_wp2_with fail
  refine (hm).mono ?_
  rintro e w39 ⟨rfl, h39⟩
  have b39 := (belowOn b38 h39)
  replace la := la.on h39
  replace lb := lb.on h39
  replace lc := lc.on h39
  replace ld := ld.on h39
  replace lf := lf.on h39
  replace lg := lg.on h39
  replace ls := ls.on h39
  replace lu := lu.on h39
  replace lv := lv.on h39
  clear b38
  clear hm
  go_wp2_with fail
  refine (is_lit [5, 6] 2 rfl (by decide) w39 _ _ la).mono ?_
  rintro e w40 ⟨rfl, h40⟩
  have b40 := (belowOn b39 h40)
  replace la := la.on h40
  replace lb := lb.on h40
  replace lc := lc.on h40
  replace ld := ld.on h40
  replace lf := lf.on h40
  replace lg := lg.on h40
  replace ls := ls.on h40
  replace lu := lu.on h40
  replace lv := lv.on h40
  clear b39
  go_wp2_with fail
  refine (is_lit [2, 7] 2 rfl (by decide) w40 _ _ lb).mono ?_
  rintro e w41 ⟨rfl, h41⟩
  have b41 := (belowOn b40 h41)
  replace la := la.on h41
  replace lb := lb.on h41
  replace lc := lc.on h41
  replace ld := ld.on h41
  replace lf := lf.on h41
  replace lg := lg.on h41
  replace ls := ls.on h41
  replace lu := lu.on h41
  replace lv := lv.on h41
  clear b40
  go_wp2_with fail
  refine (is_lit [2, 3, 6] 3 rfl (by decide) w41 _ _ lc).mono ?_
  rintro e w42 ⟨rfl, h42⟩
  have b42 := (belowOn b41 h42)
  replace la := la.on h42
  replace lb := lb.on h42
  replace lc := lc.on h42
  replace ld := ld.on h42
  replace lf := lf.on h42
  replace lg := lg.on h42
  replace ls := ls.on h42
  replace lu := lu.on h42
  replace lv := lv.on h42
  clear b41
  go_wp2_with fail
  refine (is_lit [2, 3] 2 rfl (by decide) w42 _ _ ld).mono ?_
  rintro e w43 ⟨rfl, h43⟩
  have b43 := (belowOn b42 h43)
  replace la := la.on h43
  replace lb := lb.on h43
  replace lc := lc.on h43
  replace ld := ld.on h43
  replace lf := lf.on h43
  replace lg := lg.on h43
  replace ls := ls.on h43
  replace lu := lu.on h43
  replace lv := lv.on h43
  clear b42
  go_wp2_with fail
  refine (is_lit [4, 5] 2 rfl (by decide) w43 _ _ lf).mono ?_
  rintro e w44 ⟨rfl, h44⟩
  have b44 := (belowOn b43 h44)
  replace la := la.on h44
  replace lb := lb.on h44
  replace lc := lc.on h44
  replace ld := ld.on h44
  replace lf := lf.on h44
  replace lg := lg.on h44
  replace ls := ls.on h44
  replace lu := lu.on h44
  replace lv := lv.on h44
  clear b43
  go_wp2_with fail
  refine (is_lit [2, 2, 1] 3 rfl (by decide) w44 _ _ lg).mono ?_
  rintro e w45 ⟨rfl, h45⟩
  have b45 := (belowOn b44 h45)
  replace la := la.on h45
  replace lb := lb.on h45
  replace lc := lc.on h45
  replace ld := ld.on h45
  replace lf := lf.on h45
  replace lg := lg.on h45
  replace ls := ls.on h45
  replace lu := lu.on h45
  replace lv := lv.on h45
  clear b44
  go_wp2_with fail
  refine (is_lit [0, 4, 5] 3 rfl (by decide) w45 _ _ ls).mono ?_
  rintro e w46 ⟨rfl, h46⟩
  have b46 := (belowOn b45 h46)
  replace la := la.on h46
  replace lb := lb.on h46
  replace lc := lc.on h46
  replace ld := ld.on h46
  replace lf := lf.on h46
  replace lg := lg.on h46
  replace ls := ls.on h46
  replace lu := lu.on h46
  replace lv := lv.on h46
  clear b45
  go_wp2_with fail
  refine (is_lit [1, 1] 2 rfl (by decide) w46 _ _ lu).mono ?_
  rintro e w47 ⟨rfl, h47⟩
  have b47 := (belowOn b46 h47)
  replace la := la.on h47
  replace lb := lb.on h47
  replace lc := lc.on h47
  replace ld := ld.on h47
  replace lf := lf.on h47
  replace lg := lg.on h47
  replace ls := ls.on h47
  replace lu := lu.on h47
  replace lv := lv.on h47
  clear b46
  go_wp2_with fail
  refine (is_lit [0, 31] 2 rfl (by decide) w47 _ _ lv).mono ?_
  rintro e w48 ⟨rfl, h48⟩
  have b48 := (belowOn b47 h48)
  replace la := la.on h48
  replace lb := lb.on h48
  replace lc := lc.on h48
  replace ld := ld.on h48
  replace lf := lf.on h48
  replace lg := lg.on h48
  replace ls := ls.on h48
  replace lu := lu.on h48
  replace lv := lv.on h48
  clear b47
  go_wp2_with fail
  refine (alive_any _).mono ?_
  rintro e w49 ⟨rfl, h49⟩
  have b49 := (belowOn b48 h49)
  replace la := la.on h49
  replace lb := lb.on h49
  replace lc := lc.on h49
  replace ld := ld.on h49
  replace lf := lf.on h49
  replace lg := lg.on h49
  replace ls := ls.on h49
  replace lu := lu.on h49
  replace lv := lv.on h49
  clear b48
  go_wp2
  go_ret
  exact ⟨rfl, b49⟩
end Go.Proofs.Ythannibclhidcaa
