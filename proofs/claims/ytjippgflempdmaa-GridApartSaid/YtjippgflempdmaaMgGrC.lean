/- Layer 11: widths, the program's: the closure. -/
import Derived.Test.YtjippgflempdmaaMgGrA
import Derived.Test.YtjippgflempdmaaMgGrB
namespace Go.Proofs.Ytjippgflempdmaa
set_option linter.unusedVariables false
set_option linter.unusedSimpArgs false
set_option maxRecDepth 100000
open Go.RowKit
attribute [local go_sem] max_fold min_fold

section
variable {ops : Array Oper} {rest : List Oper} {o : Oper} {a : Act} {Q : Exit → Act → World → Prop} {w : World}
theorem append_bd (hgd : o.guard = none) (s x : Operand) (ho : o.op = .call { callee := .builtin .append, args := #[s, x], argTypes := #[94, 94] }) (base : Nat) (v : Value) (l : List T3) (t : T3) (g : Nat)
    (hs : a.eval s = v) (hx : a.eval x = .slice (some ⟨g, 0, none⟩) 1 1) (hown : w.ownsRow base 96 3 v l.length (t3s l)) (h0 : w.cell? ⟨g, 0, none⟩ = some (.int .i64 t.p)) (h1 : w.cell? ⟨g, 1, none⟩ = some (.int .i64 t.q)) (h2 : w.cell? ⟨g, 2, none⟩ = some (.int .i64 t.r)) (hn : l.length ≤ 1000000) (hbase : base ≤ w.heap.size)
    (h : ∀ v' w', w'.ownsRow base 96 3 v' (l.length + 1) (t3s (l ++ [t])) → w.grownBy w' v.ownBlock → (v'.ownBlock = v.ownBlock ∨ v'.ownBlock = some w.heap.size) → wpList Try.prog ops Q rest (a.put o.dst v') w') : wpList Try.prog ops Q (o :: rest) a w := by
  obtain ⟨i0, hi, hz0, hz1, hz2⟩ := info_parts info_bound
  refine wpList_append_own_at w hgd s x 94 ho base 96 i0 _ 3 24 Try.underlying94 hi hz0 hz1 hz2 rfl (by decide) v l.length (t3s l) hs hown ⟨g, 0, none⟩ 1 1 (t3s [t]) hx rfl (fun j u hj => ?_) (t3s_one _) (by unfold maxLen; omega) (by omega) hbase (fun v' w' h4 h5 _ h6 => ?_)
  · match j, hj with
    | 0, hj => simp [t3s] at hj; subst hj; simpa [Addr.add] using h0
    | 1, hj => simp [t3s] at hj; subst hj; simpa [Addr.add] using h1
    | 2, hj => simp [t3s] at hj; subst hj; simpa [Addr.add] using h2
    | j + 3, hj => simp [t3s] at hj
  · exact h v' w' (by rw [t3s_append]; exact h4) h5 h6
end
theorem RowsAt.on {n : Int} {S : List Int} {A : Option Addr} {Z : List Rw} {w w' : World} (h : RowsAt n S A Z w) (hb : Below w.heap.size w w') : RowsAt n S A Z w' :=
  ⟨(h.outer.ext hb).mono hb.size, fun z hz => ((h.inner z hz).ext hb).mono hb.size⟩
/-- An owned row is no block of another type. -/
theorem own_type {w : World} {base : Nat} {e t : TypeId} {size n q : Nat} {v : Value} {xs : List Value} {cs : Array Value} (h : w.ownsRow base e size v n xs) (hq : w.heap[q]? = some (.cells cs t (0, 0))) (hne : e ≠ t) : v.ownBlock ≠ some q := by
  intro e1
  rcases h.2 with ⟨rfl, _⟩ | ⟨g, cap, cur, rfl, hg, hh, _⟩
  · cases e1
  · have : g = q := by injection e1
    subst this
    rw [hh] at hq
    injection hq with hq
    injection hq with _ h2 _
    exact hne h2
/-- What the closure knows: its three variables. -/
structure WSt (w : World) (F : Nat) (caps : Array Value) (gap : Int) (q9 q5 q7 : Nat) (v : Value) (L : List T3) (wr : World) : Prop where
  below : Below w.heap.size w wr
  b9 : wr.heap[q9]? = some (.cells #[v] 94 (0, 0))
  b5 : wr.heap[q5]? = some (.cells #[.func (.func F) #[] caps] 66 (0, 0))
  b7 : wr.heap[q7]? = some (.cells #[.int .i64 gap] 3 (0, 0))
  own : wr.ownsRow w.heap.size 96 3 v L.length (t3s L)
  q9g : w.heap.size ≤ q9 ∧ q9 ≠ q5 ∧ q9 ≠ q7
theorem WSt.on {w wr w' : World} {F : Nat} {caps : Array Value} {gap : Int} {q9 q5 q7 : Nat} {v : Value} {L : List T3} (h : WSt w F caps gap q9 q5 q7 v L wr) (hb : Below wr.heap.size wr w') : WSt w F caps gap q9 q5 q7 v L w' :=
  ⟨h.below.trans (hb.mono h.below.size), (hb.block _ (blk_lt2 h.b9)).trans h.b9, (hb.block _ (blk_lt2 h.b5)).trans h.b5, (hb.block _ (blk_lt2 h.b7)).trans h.b7, own_below' h.own hb, h.q9g⟩
/-- One bound more. -/
theorem WSt.push {w wr w4 : World} {F : Nat} {caps : Array Value} {gap : Int} {q9 q5 q7 : Nat} {v v' : Value} {L : List T3} {t : T3} (h : WSt w F caps gap q9 q5 q7 v L wr) (hg : wr.grownBy w4 v.ownBlock) (ho : w4.ownsRow w.heap.size 96 3 v' (L.length + 1) (t3s (L ++ [t])))
    (s : Nat) (hs : wr.heap.size ≤ s) (hl : v'.ownBlock = v.ownBlock ∨ v'.ownBlock = some s) : WSt w F caps gap q9 q5 q7 v' (L ++ [t]) (w4.setCell ⟨q9, 0, none⟩ v') := by
  obtain ⟨g1, g2, g3⟩ := h.q9g
  have n9 := own_type h.own h.b9 (by decide)
  have n5 := own_type h.own h.b5 (by decide)
  have n7 := own_type h.own h.b7 (by decide)
  have hl9 := blk_lt2 h.b9
  have e9 : w4.heap[q9]? = _ := (hg.block q9 hl9 (Ne.symm n9)).trans h.b9
  refine ⟨(h.below.grown hg h.below.size (own_ge h.own)).setCell (p := ⟨q9, 0, none⟩) g1 _, ?_, ?_, ?_, ?_, h.q9g⟩
  · simp [World.setCell, Array.getElem?_modify, e9]
  · rw [heap_setCell_other _ _ _ _ (by simpa using Ne.symm g2)]
    exact (hg.block q5 (blk_lt2 h.b5) (Ne.symm n5)).trans h.b5
  · rw [heap_setCell_other _ _ _ _ (by simpa using Ne.symm g3)]
    exact (hg.block q7 (blk_lt2 h.b7) (Ne.symm n7)).trans h.b7
  · rw [List.length_append, List.length_cons, List.length_nil]
    refine own_off ho fun e => ?_
    rcases hl with e2 | e2
    · rw [e2] at e
      exact n9 e
    · rw [e2] at e
      have := Option.some.inj e
      omega

set_option maxRecDepth 100000 in
set_option maxHeartbeats 1000000 in
theorem wadd_any {w wr : World} {F : Nat} {caps : Array Value} {gap : Int} {q9 q5 q7 : Nat} {v : Value} {L : List T3} (h : WSt w F caps gap q9 q5 q7 v L wr) (eg : ∀ args w, (callFunc F args).run Try.prog w = .ok (.enter F args) w) (hl : L.length ≤ 100000) (i : Nat) (x wd y d : Int)
    (hx : 0 ≤ x ∧ x + wd ≤ 64) (hw : 1 ≤ wd) (hd : 0 ≤ d ∧ d ≤ 16384) (hgp : 0 ≤ (wd - 1) * gap ∧ (wd - 1) * gap ≤ 1032192) (hneed : ∀ V, Below wr.heap.size wr V → Calls Try.prog F (#[.int .i64 i] ++ caps) V fun e w' => e = .returned (.int .i64 d) ∧ Below V.heap.size V w') :
    Calls Try.prog 62 #[.agg #[.int .i64 x, .int .i64 wd, .int .i64 i], .int .i64 y, .pointer (some ⟨q9, 0, none⟩), .pointer (some ⟨q5, 0, none⟩), .pointer (some ⟨q7, 0, none⟩)] wr fun e w' => e = .returned (.tuple #[]) ∧ ∃ v', WSt w F caps gap q9 q5 q7 v' (L ++ [⟨x, x + wd, d - (wd - 1) * gap⟩]) w' := by
  have HN := Go.Lib.hid hneed
  have H := Go.Lib.hid h
  clear h hneed
  go_enter Try.func62, Try.ntmps62
  go_wp2
  have hbk := alloc_at wr (.cells #[.int .i64 x, .int .i64 wd, .int .i64 i] 63)
  have hba := (Below.refl wr.heap.size wr).alloc (Nat.le_refl _) (.cells #[.int .i64 x, .int .i64 wd, .int .i64 i] 63)
  have H1 := Go.Lib.hid (H.out.on hba)
  generalize World.alloc wr _ = w1 at *
  generalize wr.heap.size = qt at *
  have k9 := blk_cell H1.out.b9 0
  have k5 := blk_cell H1.out.b5 0
  have k7 := blk_cell H1.out.b7 0
  have kt := blk_cell hbk
  have t0 := kt 0
  have t1 := kt 1
  have t2 := kt 2
  simp at k9 k5 k7 t0 t1 t2
  have l9 : q9 < w1.heap.size := World.block_lt_of_cell? _ _ k9
  have l5 : q5 < w1.heap.size := World.block_lt_of_cell? _ _ k5
  have l7 : q7 < w1.heap.size := World.block_lt_of_cell? _ _ k7
  have lt : qt < w1.heap.size := World.block_lt_of_cell? _ _ t0
  have HNV : Hid (∀ V, Below w1.heap.size w1 V → ∀ x : Ext V, Calls Try.prog F (#[.int .i64 i] ++ caps) (ext x) fun e w' => e = .returned (.int .i64 d) ∧ Below (ext x).heap.size (ext x) w') := Go.Lib.hid fun V hV x => HN.out _ (hba.trans ((hV.trans (x.2.mono hV.size)).mono (by omega)))
  clear hbk kt H HN
  (apply region_make1 (Good := NewCells w1 (fun b => .slice (some ⟨b, 0, none⟩) 1 1) #[.int .i64 x, .int .i64 (x + wd), .int .i64 (d - (wd - 1) * gap)] 96) (W := w1) 20 19 mixed rfl rfl (by kernel_rfl) (by decide) NewCells.mono; (focus (intro V hV; have hsV := hV.size; obtain ⟨hcV, hfV⟩ := bcell hV; have zV_0 : q9 < V.heap.size := (by omega); have yV_0 : q9 < V.heap.size + 1 := (by omega); have zV_1 : q5 < V.heap.size := (by omega); have yV_1 : q5 < V.heap.size + 1 := (by omega); have zV_2 : q7 < V.heap.size := (by omega); have yV_2 : q7 < V.heap.size + 1 := (by omega); have zV_3 : qt < V.heap.size := (by omega); have yV_3 : qt < V.heap.size + 1 := (by omega); simp only [List.length_cons, List.length_nil, Nat.reduceAdd, Nat.reduceSub, List.take_succ_cons, List.take_zero, List.drop_succ_cons, List.drop_zero, List.cons_append, List.nil_append, List.append_nil]; (repeat (go_big_quiet_step ((with_reducible exact in_ext (HNV.out V hV _))))); exact wpQuiet_nil rfl)); (focus (exact makes_new fun w => by simp [go_sem])); rintro v w6 ⟨b6, hge6, hlt6, hblk6, rfl⟩ hb6; have hs6 := hb6.size; obtain ⟨hc6, hf6⟩ := bcell hb6; have hk6 := blk_cell hblk6; have hl6 := blk_frozen hblk6; have zw6_0 : q9 < w6.heap.size := (by omega); have yw6_0 : q9 < w6.heap.size + 1 := (by omega); have zw6_1 : q5 < w6.heap.size := (by omega); have yw6_1 : q5 < w6.heap.size + 1 := (by omega); have zw6_2 : q7 < w6.heap.size := (by omega); have yw6_2 : q7 < w6.heap.size + 1 := (by omega); have zw6_3 : qt < w6.heap.size := (by omega); have yw6_3 : qt < w6.heap.size + 1 := (by omega); simp only [List.length_cons, List.length_nil, Nat.reduceAdd, Nat.reduceSub, List.take_succ_cons, List.take_zero, List.drop_succ_cons, List.drop_zero, List.cons_append, List.nil_append, List.append_nil])
  have H6 := Go.Lib.hid (H1.out.on hb6)
  have e0 := hk6 0
  have e1 := hk6 1
  have e2 := hk6 2
  simp at e0 e1 e2
  have k96 := blk_cell H6.out.b9 0
  simp at k96
  have hsw := H6.out.below.size
  clear k9 k5 k7 t0 t1 t2 l9 l5 l7 lt hb6 hc6 hf6 hk6 hl6 hblk6 H1 HNV eg hba
  go_wp2_with (first | (at_builtin; refine append_bd rfl (.tmp 7) (.tmp 26) rfl w.heap.size _ L ⟨x, x + wd, d - (wd - 1) * gap⟩ b6 rfl rfl H6.out.own e0 e1 e2 ?_ ?_ ?_))
  · omega
  · omega
  intro v2 w7 hown7 hg7 hl7
  obtain ⟨A2, c2, rfl⟩ := own_shape hown7
  have H7 := Go.Lib.hid (H6.out.push hg7 hown7 _ (Nat.le_refl _) hl7)
  have n9 := own_type H6.out.own H6.out.b9 (by decide)
  have k97 := blk_cell ((hg7.block q9 (blk_lt2 H6.out.b9) (Ne.symm n9)).trans H6.out.b9) 0
  have f97 := blk_frozen ((hg7.block q9 (blk_lt2 H6.out.b9) (Ne.symm n9)).trans H6.out.b9) 0
  simp at k97 f97
  clear H6 k96 e0 e1 e2 hown7 hg7 hl7 n9 hsw
  go_wp2
  go_end0
  exact ⟨rfl, _, H7.out⟩
end Go.Proofs.Ytjippgflempdmaa

/- Layer 11: widths, the program's. -/
namespace Go.Proofs.Ytjippgflempdmaa
set_option linter.unusedVariables false
set_option linter.unusedSimpArgs false
set_option maxRecDepth 100000
open Go.RowKit
attribute [local go_sem] max_fold min_fold

theorem enters_wadd : Enters Try.prog 62 := enters_of Try.func62 (by kernel_rfl) rfl
theorem WSt.start (w : World) (F : Nat) (caps : Array Value) (gap : Int) : WSt w F caps gap (w.heap.size + 2) w.heap.size (w.heap.size + 1) (.slice none 0 0) [] (((w.alloc (.cells #[.func (.func F) #[] caps] 66)).alloc (.cells #[.int .i64 gap] 3)).alloc (.cells #[.slice none 0 0] 94)) := by
  refine ⟨(((Below.refl _ _).alloc (Nat.le_refl _) _).alloc (by simp) _).alloc (by simp; omega) _, ?_, ?_, ?_, World.ownsRow_nil _ _ _ _, by omega⟩
  · have := alloc_at ((w.alloc (.cells #[.func (.func F) #[] caps] 66)).alloc (.cells #[.int .i64 gap] 3)) (.cells #[.slice none 0 0] 94)
    simpa using this
  · rw [Below.heap_alloc _ _ _ (by simp; omega), Below.heap_alloc _ _ _ (by simp), alloc_at]
  · rw [Below.heap_alloc _ _ _ (by simp), alloc_two]
theorem bnd2_succ_of (n : Int) (S D : List Int) (gap : Int) (k : Nat) : bnd2 n S D gap (k + 1) = bnd2 n S D gap k ++ [⟨colP n S k, colP n S k + wideP n S k, D.getD k 0 - (wideP n S k - 1) * gap⟩] := bnd2_succ n S D gap k
theorem At.of_own_pre {B : Nat} {w w' : World} {A : Option Addr} {xs : List Value} (h : At B w' A xs) (hb : Below B w w') : At B w A xs := by
  intro hn
  obtain ⟨g, o, hA, hg, hc⟩ := h hn
  exact ⟨g, o, hA, hg, fun j v hj => by rw [← hb.cell (p := ⟨g, o + j, none⟩) hg]; exact hc j v hj⟩
theorem RowsAt.of {n : Int} {S : List Int} {A : Option Addr} {Z : List Rw} {w w' : World} (h : RowsAt n S A Z w) (hb : Below w.heap.size w w') : RowsAt n S A Z w' := h.on hb

set_option maxRecDepth 100000 in
set_option maxHeartbeats 4000000 in
theorem widths_any (F : Nat) (caps : Array Value) (eg : ∀ args w, (callFunc F args).run Try.prog w = .ok (.enter F args) w) (m : Nat) (S D : List Int) (col gap : Int) (N : Nat) (hok : WidOk m S D gap N) (hcol : max col 1 = (m : Int)) (A : Option Addr) (c : Nat) (Z : List Rw) (hrec : recs m S N Z) (w : World) (hrows : RowsAt m S A Z w)
    (hneed : ∀ i, i < N → ∀ V, Below w.heap.size w V → Calls Try.prog F (#[.int .i64 i] ++ caps) V fun e w' => e = .returned (.int .i64 (D.getD i 0)) ∧ Below V.heap.size V w') :
    Calls Try.prog 36 #[.slice A Z.length c, .func (.func F) #[] caps, .int .i64 col, .int .i64 gap] w (IntsPost (widL m S D gap N) w) := by
  have HOK := Go.Lib.hid hok
  have HREC := Go.Lib.hid hrec
  have HROWS := Go.Lib.hid hrows
  have HNEED := Go.Lib.hid hneed
  have HEG := Go.Lib.hid eg
  obtain ⟨R, hR⟩ : ∃ R, Z.length = R := ⟨_, rfl⟩
  have HRR := Go.Lib.hid hR
  have hm1 := hok.m1
  have hm2 := hok.m2
  have hn1 := hok.n1
  rw [hR]
  clear hok hrec hrows hneed eg hR
  go_enter Try.func36, Try.ntmps36
  go_wp2
  clear hcol
  have H := Go.Lib.hid (WSt.start w F caps gap)
  generalize World.alloc (World.alloc (World.alloc w _) _) _ = w1 at *
  obtain ⟨q9, hq9⟩ : ∃ q, w.heap.size + 2 = q := ⟨_, rfl⟩
  obtain ⟨q7, hq7⟩ : ∃ q, w.heap.size + 1 = q := ⟨_, rfl⟩
  obtain ⟨q5, hq5⟩ : ∃ q, w.heap.size = q := ⟨_, rfl⟩
  rw [hq9, hq7] at H ⊢
  rw [hq5] at H ⊢
  clear hq9 hq7 hq5
  go_loopw [10, 18] (fun _ i_ wr => ∃ (i : Nat) (v : Value), i ≤ m ∧ i_ = .int .i64 i ∧ Hid (WSt w F caps gap q9 q5 q7 v (bnd1 i) wr)) (fun _ i_ _ => m - (intOf i_).toNat)
  case atStart => exact ⟨0, _, by omega, rfl, H⟩
  case round =>
    clear H
    obtain ⟨i, v, hi, rfl, H⟩ := hrel
    have k9 := blk_cell H.out.b9 0
    simp at k9
    by_cases hlt : i < m
    · have hli : (i : Int) < (m : Int) := by omega
      have hsw := H.out.below.size
      have H1 := fun o => Go.Lib.hid (H.out.on ((Below.refl wr.heap.size wr).alloc (Nat.le_refl _) o))
      clear H
      go_wp2_with (first | (at_builtin; refine append_bd rfl (.tmp 21) (.tmp 26) rfl w.heap.size _ (bnd1 i) ⟨(i : Int), (i : Int) + 1, 0⟩ wr.heap.size rfl rfl (H1 _).out.own (by simp [go_sem]) (by simp [go_sem]) (by simp [go_sem]) ?_ ?_ ?_))
      · rw [bnd1_len]; omega
      · (try simp); omega
      intro v2 w4 hown4 hg4 hl4
      obtain ⟨A2, c2, rfl⟩ := own_shape hown4
      have H4 := Go.Lib.hid ((H1 _).out.push hg4 hown4 (wr.heap.size + 1) (by simp) hl4)
      have n9 := own_type (H1 _).out.own (H1 (.cells #[.int .i64 i, .int .i64 (i + 1), .int .i64 0] 96)).out.b9 (by decide)
      have k97 := blk_cell ((hg4.block q9 (blk_lt2 (H1 _).out.b9) (Ne.symm n9)).trans (H1 _).out.b9) 0
      have f97 := blk_frozen ((hg4.block q9 (blk_lt2 (H1 _).out.b9) (Ne.symm n9)).trans (H1 _).out.b9) 0
      simp at k97 f97
      clear H1 k9 hown4 hg4 hl4 n9
      rw [← bnd1_succ] at H4
      go_wp2
      go_roundw
      case rel => exact ⟨i + 1, _, by omega, by go_num, H4⟩
      case measure => simp [intOf]; omega
    · have hlt' : ¬ ((i : Int) < (m : Int)) := by omega
      have him : i = m := by omega
      subst him
      have hW := HOK.out
      have HE : Hid (Calls Try.prog 33 #[.slice A Z.length c, .func (.func 62) #[] #[.pointer (some ⟨q9, 0, none⟩), .pointer (some ⟨q5, 0, none⟩), .pointer (some ⟨q7, 0, none⟩)]] wr fun e w' => e = .returned (.tuple #[]) ∧ ∃ v, WSt w F caps gap q9 q5 q7 v (bndL i S D gap N) w') := Go.Lib.hid (each_any 62 #[.pointer (some ⟨q9, 0, none⟩), .pointer (some ⟨q5, 0, none⟩), .pointer (some ⟨q7, 0, none⟩)] (fun a w => enters_wadd a w) (i : Int) (by omega) S N hn1 A c Z HREC.out (fun k wr => ∃ v, WSt w F caps gap q9 q5 q7 v (bnd1 i ++ bnd2 i S D gap k) wr)
        (fun k wr ⟨v, h⟩ => HROWS.out.on h.below) (fun k wr w' ⟨v, h⟩ hb => ⟨v, h.on hb⟩)
        (fun k wr hk ⟨v, h⟩ => by
          have hc := col_bd (n := i) (by omega) S k
          have hw := wide_bd (n := i) (by omega) S k
          have hf := far_bd (n := i) (by omega) (by omega) (S := S) hW.g (hW.d k hk)
          have := wadd_any h HEG.out (by rw [List.length_append, bnd1_len, bnd2_len]; omega) k (colP i S k) (wideP i S k) (rowP i S k) (D.getD k 0) ⟨hc.1, by omega⟩ hw.1 (hW.d k hk) hf.2.2 (fun V hV => HNEED.out k hk V (h.below.trans (hV.mono h.below.size)))
          rw [List.append_assoc, ← bnd2_succ_of] at this
          exact this)
        wr ⟨v, by simpa [bnd2] using H.out⟩)
      rw [HRR.out] at HE
      clear k9 H hW
      go_wp2_with fail
      refine HE.out.mono ?_
      rintro e w5 ⟨rfl, v5, h5⟩
      clear HE
      have HED := Go.Lib.hid (edge_ok HOK.out)
      have hLl := bndL_len i S D gap N
      have HXL := Go.Lib.hid (edge_len HOK.out)
      have HXB := Go.Lib.hid (fun v hv => edge_bd HOK.out (v := v) hv)
      have HRES : Hid (widL i S D gap N = (List.range i).map fun k => (edgeL i S D gap N).getD (k + 1) 0 - (edgeL i S D gap N).getD k 0) := Go.Lib.hid rfl
      have HSV : Hid (∀ A c w, At w.heap.size w A (t3s (bndL i S D gap N)) → Calls Try.prog 63 #[.int .i64 ((i : Int) + 1), .slice A (bndL i S D gap N).length c] w (IntsE (edgeL i S D gap N) 0 w)) := Go.Lib.hid fun A c w h1 => by
        have := Solve_any w.heap.size A c ((i : Int) + 1) (bndL i S D gap N) w h1 (Nat.le_refl _) (by omega)
        rw [HED.out.e] at this
        exact this
      obtain ⟨len, hlen⟩ : ∃ len, (bndL i S D gap N).length = len := ⟨_, rfl⟩
      have hown5 := own_len' h5.own hlen
      have hb9 := h5.b9
      have hb5 := h5.below
      rw [hlen] at HSV
      clear h5 hLl HED
      generalize edgeL i S D gap N = X at *
      generalize widL i S D gap N = Wd at *
      generalize bndL i S D gap N = L at *
      obtain ⟨A5, c5, rfl⟩ := own_shape hown5
      have k95 := blk_cell hb9 0
      simp at k95
      have hA5 := At.of_own hown5
      have hs5 := hb5.size
      clear hown5 hb9 hlen
      go_wp2_with fail
      refine (HSV.out _ _ _ hA5).mono ?_
      rintro e w6 ⟨A6, c6, rfl, hown6, hb6⟩
      have hb26 := hb5.trans (hb6.mono hs5)
      have hs6 := hb26.size
      have hxl := HXL.out
      clear hA5 HSV hb5 hb6 k95
      go_wp2_with (first | (at_make; refine make_ints rfl (.tmp 39) (.tmp 39) rfl w.heap.size i rfl rfl ?_ ?_ ?_))
      · omega
      · omega
      intro w7 hown7 hgr7
      have hA6 := At.of_own hown6
      have hb7 := hb26.grown hgr7 hs6 (fun k hk => by cases hk)
      have hb67 : Below w6.heap.size w6 w7 := (Below.refl _ _).grown hgr7 (Nat.le_refl _) (fun k hk => by cases hk)
      have hX7 := hA6.below hb67
      rw [replicate_range] at hown7
      clear hgr7 hown6 hA6
      have HX6 := Go.Lib.hid (At.of_own_pre hX7 hb67)
      have HB26 := Go.Lib.hid hb26
      obtain ⟨g, hg⟩ : ∃ g, w6.heap.size = g := ⟨_, rfl⟩
      rw [hg] at hown7 hs6 ⊢
      have HG := Go.Lib.hid hg
      clear hX7 hb26 hb7 hg hxl
      go_wp2
      go_loopw [14, 43] (fun _ i_ wr => ∃ k : Nat, k ≤ i ∧ i_ = .int .i64 k ∧ Hid (wr.ownsRow w.heap.size 3 1 (.slice (some ⟨g, 0, none⟩) i i) i (ints ((List.range i).map fun j => if j < k then X.getD (j + 1) 0 - X.getD j 0 else 0)) ∧ Below w6.heap.size w6 wr)) (fun _ i_ _ => i - (intOf i_).toNat)
      case atStart => exact ⟨0, by omega, rfl, Go.Lib.hid ⟨by simpa using hown7, hb67⟩⟩
      case round =>
        clear hown7 hb67
        obtain ⟨k, hk, rfl, HK⟩ := hrel
        by_cases hlt : k < i
        · have hli : (k : Int) < (i : Int) := by omega
          have hx := HX6.out.below HK.out.2
          obtain ⟨g2, o, rfl, hg2, c0⟩ := hx.int (k := k) (by have := HXL.out; omega)
          obtain ⟨g2', o', he, _, c1⟩ := hx.int (k := k + 1) (by have := HXL.out; omega)
          have he1 : g2 = g2' ∧ o = o' := by
            have := Option.some.inj he
            exact ⟨congrArg Addr.block this, congrArg Addr.off this⟩
          obtain ⟨rfl, rfl⟩ := he1
          have hb0 := HXB.out k (by omega)
          have hb1 := HXB.out (k + 1) (by omega)
          have e0 : X.getD k 0 = X[k]'(by have := HXL.out; omega) := by simp [List.getD, show k < X.length by have := HXL.out; omega]
          have e1 : X.getD (k + 1) 0 = X[k + 1]'(by have := HXL.out; omega) := by simp [List.getD, show k + 1 < X.length by have := HXL.out; omega]
          rw [← e0] at c0
          rw [← e1] at c1
          have hown := HK.out.1
          have hcell := hown.cellAt k (by omega)
          rw [ints_at _ k (by simpa using hlt)] at hcell
          have hfr := hown.frozenAt k
          have hpe : ((List.range i).map fun j => if j = k then X.getD (k + 1) 0 - X.getD k 0 else if j < k then X.getD (j + 1) 0 - X.getD j 0 else 0) = (List.range i).map fun j => if j < k + 1 then X.getD (j + 1) 0 - X.getD j 0 else 0 := map_range_congr fun j _ => by
            by_cases e : j = k
            · subst e
              simp
            · have : (j < k + 1) = (j < k) := by simp; omega
              simp [e, this]
          have HST : Hid (∀ w9, Below wr.heap.size wr w9 → (w9.setCell ⟨g, k, none⟩ (.int .i64 (X.getD (k + 1) 0 - X.getD k 0))).ownsRow w.heap.size 3 1 (.slice (some ⟨g, 0, none⟩) i i) i (ints ((List.range i).map fun j => if j < k + 1 then X.getD (j + 1) 0 - X.getD j 0 else 0)) ∧ Below w6.heap.size w6 (w9.setCell ⟨g, k, none⟩ (.int .i64 (X.getD (k + 1) 0 - X.getD k 0)))) := Go.Lib.hid fun w9 hb9 => by
            have hst := own_store (own_below' hown hb9) k (.int .i64 (X.getD (k + 1) 0 - X.getD k 0))
            rw [ints_set, set_range, hpe] at hst
            exact ⟨hst, (HK.out.2.trans (hb9.mono HK.out.2.size)).setCell (p := ⟨g, k, none⟩) (by have := HG.out; simp only; omega) _⟩
          have lg := World.block_lt_of_cell? _ _ hcell
          have lg2 := World.block_lt_of_cell? _ _ c0
          clear hpe hown e0 e1 he hx HK
          generalize X.getD (k + 1) 0 = b1 at *
          generalize X.getD k 0 = b0 at *
          go_wp2
          refine region_ext_last 1 mixed (by kernel_rfl) ?_
          simp only [List.length_cons, List.length_nil, Nat.reduceAdd, Nat.reduceSub, List.take_succ_cons, List.take_zero, List.drop_succ_cons, List.drop_zero]
          (repeat (go_big_quiet_step (fail)))
          refine wpQuiet_nil ?_
          intro w9 hb9
          obtain ⟨hc9, hf9⟩ := bcell hb9
          have HS9 := HST.out w9 hb9
          have H9 := Go.Lib.hid HS9
          have l9 : g < w9.heap.size := Nat.lt_of_lt_of_le lg hb9.size
          rw [← hc9 _ _ lg] at hcell
          rw [← hf9 _ _ lg] at hfr
          clear HS9 HST c0 c1 lg2 lg hc9 hf9 hb9
          go_wp2
          go_roundw
          case rel => exact ⟨k + 1, by omega, by go_num, H9⟩
          case measure => simp [intOf]; omega
        · have hlt' : ¬ ((k : Int) < (i : Int)) := by omega
          have hki : k = i := by omega
          have hown := HK.out.1
          have hbz := HK.out.2
          rw [show ((List.range i).map fun j => if j < k then X.getD (j + 1) 0 - X.getD j 0 else 0) = Wd by
            rw [HRES.out, hki]
            exact map_range_congr fun j hj => by rw [if_pos (by omega)]] at hown
          clear HK hki
          go_wp2
          go_ret
          exact IntsPost.mk (by rw [HRES.out]; simp) hown (HB26.out.trans (hbz.mono HB26.out.size))
end Go.Proofs.Ytjippgflempdmaa

/- Layer 11: widths, the document's. -/
namespace Go.Proofs.Ytjippgflempdmaa
set_option linter.unusedVariables false
set_option linter.unusedSimpArgs false
set_option maxRecDepth 100000
open Go.RowKit
attribute [local go_sem] max_fold min_fold

theorem sub_pos' {a b : Int} (h : a ≤ b) : 0 ≤ b - a := by omega

set_option maxRecDepth 100000 in
set_option maxHeartbeats 4000000 in
theorem rwidths_any (B : Nat) (A A2 : Option Addr) (c c2 : Nat) (m : Nat) (S D : List Int) (col gap : Int) (w : World) (hA : At B w A (ints S)) (hA2 : At B w A2 (ints D)) (hB : B ≤ w.heap.size) (hok : WidOk m S D gap S.length) (hDl : D.length = S.length) (hcol : max col 1 = (m : Int)) :
    Calls Try.prog 49 #[.slice A S.length c, .slice A2 D.length c2, .int .i64 col, .int .i64 gap] w (IntsPost (widL m S D gap S.length) w) := by
  have hm1 := hok.m1
  have hm2 := hok.m2
  have hn1 := hok.n1
  have HC := Go.Lib.hid (rcells_any B A c S col m w hA hB hn1 hcol (by omega))
  obtain ⟨N, hN⟩ : ∃ N, S.length = N := ⟨_, rfl⟩
  rw [hDl]
  rw [hN] at HC hok hn1 hDl ⊢
  have HOK := Go.Lib.hid hok
  have HDL := Go.Lib.hid hDl
  clear hok hN hDl hA
  go_enter Try.func49, Try.ntmps49
  go_wp2_with fail
  refine HC.out.mono ?_
  rintro e w1 ⟨Ap, cp, Aw, cw, rfl, H1⟩
  have HB1 := Go.Lib.hid H1.below
  have hs1 := H1.below.size
  have HP := Go.Lib.hid (At.of_own H1.o1)
  have HW := Go.Lib.hid (At.of_own H1.o2)
  have HD := Go.Lib.hid ((hA2.below (H1.below.mono hB)).mono (Nat.le_trans hB hs1))
  clear HC H1 hA2
  go_wp2
  clear hcol
  go_loopw [12, 13] (fun b_ i_ wr => ∃ i : Nat, i ≤ m ∧ i_ = .int .i64 i ∧ Hid (wr.ownsRow w1.heap.size 96 3 b_ i (t3s (bnd1 i)) ∧ Below w1.heap.size w1 wr)) (fun _ i_ _ => m - (intOf i_).toNat)
  case atStart => exact ⟨0, by omega, rfl, Go.Lib.hid ⟨World.ownsRow_nil _ _ _ _, Below.refl _ _⟩⟩
  case round =>
    obtain ⟨i, hi, rfl, H⟩ := hrel
    have hsw := H.out.2.size
    by_cases hlt : i < m
    · have hli : (i : Int) < (m : Int) := by omega
      go_wp2_with (first | (at_builtin; refine append_bd rfl (.tmp 32) (.tmp 37) rfl w1.heap.size _ (bnd1 i) ⟨(i : Int), (i : Int) + 1, 0⟩ wr.heap.size rfl rfl (own_len' (H.out.1.alloc _) (bnd1_len i).symm) (by simp [go_sem]) (by simp [go_sem]) (by simp [go_sem]) ?_ ?_ ?_))
      · rw [bnd1_len]; omega
      · (try simp); omega
      intro v2 w4 hown4 hg4 _
      have hb4 : Below w1.heap.size w1 w4 := (H.out.2.alloc hsw _).grown hg4 (by simp; omega) (own_ge H.out.1)
      have H4 := Go.Lib.hid (And.intro (own_len' hown4 (by rw [bnd1_len])) hb4)
      rw [← bnd1_succ] at H4
      clear H hown4 hg4 hb4 hsw
      go_wp2
      go_roundw
      case rel => exact ⟨i + 1, by omega, by go_num, H4⟩
      case measure => simp [intOf]; omega
    · have hlt' : ¬ ((i : Int) < (m : Int)) := by omega
      have him : i = m := by omega
      subst him
      have H0 : Hid (wr.ownsRow w1.heap.size 96 3 u12 (i + 0) (t3s (bnd1 i ++ bnd2 i S D gap 0)) ∧ Below w1.heap.size w1 wr) := Go.Lib.hid (by simpa [bnd2] using H.out)
      clear H
      go_wp2
      go_loopw [12, 14] (fun b_ j_ wq => ∃ k : Nat, k ≤ N ∧ j_ = .int .i64 k ∧ Hid (wq.ownsRow w1.heap.size 96 3 b_ (i + k) (t3s (bnd1 i ++ bnd2 i S D gap k)) ∧ Below w1.heap.size w1 wq)) (fun _ j_ _ => N - (intOf j_).toNat)
      case atStart => exact ⟨0, by omega, rfl, H0⟩
      case round =>
        clear H0 hsw
        obtain ⟨k, hk, rfl, H⟩ := hrel
        have hsw := H.out.2.size
        by_cases hlt : k < N
        · have hli : (k : Int) < (N : Int) := by omega
          have hcb := col_bd (n := i) (by omega) S k
          have hwb := wide_bd (n := i) (by omega) S k
          have hfb := far_bd (n := i) (by omega) (by omega) (S := S) HOK.out.g (HOK.out.d k hlt)
          have hdb := HOK.out.d k hlt
          have hkp : k < (ptsL i S N).length := by rw [ptsL_len]; exact hlt
          have hkw : k < (wdsL i S N).length := by rw [wdsL_len]; exact hlt
          have hkd : k < D.length := by have := HDL.out; omega
          obtain ⟨g1, o1, rfl, hg1, c0, c1⟩ := (HP.out.below H.out.2).t2 hkp
          obtain ⟨g2, o2, rfl, hg2, c2'⟩ := (HW.out.below H.out.2).int hkw
          obtain ⟨g3, o3, rfl, hg3, c3⟩ := (HD.out.below H.out.2).int hkd
          rw [show (ptsL i S N)[k] = ⟨colP i S k, (rowP i S k : Int)⟩ by simp [ptsL]] at c0 c1
          rw [show (wdsL i S N)[k] = wideP i S k by simp [wdsL]] at c2'
          rw [show D[k] = D.getD k 0 by simp [List.getD, hkd]] at c3
          have lg1 := World.block_lt_of_cell? _ _ c0
          have lg2 := World.block_lt_of_cell? _ _ c2'
          have lg3 := World.block_lt_of_cell? _ _ c3
          have HSUC := Go.Lib.hid (bnd2_succ_of i S D gap k)
          have hfar : farP i S D gap k = D.getD k 0 - (wideP i S k - 1) * gap := rfl
          rw [hfar] at hfb
          clear hfar hkp hkw hkd
          generalize colP i S k = X at *
          generalize wideP i S k = wd at *
          generalize D.getD k 0 = d at *
          generalize (rowP i S k : Int) = ry at *
          go_wp2
          (apply region_make1 (Good := NewCells wr (fun b => .slice (some ⟨b, 0, none⟩) 1 1) #[.int .i64 X, .int .i64 (X + wd), .int .i64 (d - (wd - 1) * gap)] 96) (W := wr) 30 29 mixed rfl rfl (by kernel_rfl) (by decide) NewCells.mono; (focus (intro V hV; have hsV := hV.size; obtain ⟨hcV, hfV⟩ := bcell hV; have zV_0 : g1 < V.heap.size := (by omega); have yV_0 : g1 < V.heap.size + 1 := (by omega); have zV_1 : g2 < V.heap.size := (by omega); have yV_1 : g2 < V.heap.size + 1 := (by omega); have zV_2 : g3 < V.heap.size := (by omega); have yV_2 : g3 < V.heap.size + 1 := (by omega); simp only [List.length_cons, List.length_nil, Nat.reduceAdd, Nat.reduceSub, List.take_succ_cons, List.take_zero, List.drop_succ_cons, List.drop_zero, List.cons_append, List.nil_append, List.append_nil]; (repeat (go_big_quiet_step (fail))); exact wpQuiet_nil rfl)); (focus (exact makes_new fun w => by simp [go_sem])); rintro v w6 ⟨b6, hge6, hlt6, hblk6, rfl⟩ hb6; have hs6 := hb6.size; obtain ⟨hc6, hf6⟩ := bcell hb6; have hk6 := blk_cell hblk6; have hl6 := blk_frozen hblk6; have zw6_0 : g1 < w6.heap.size := (by omega); have yw6_0 : g1 < w6.heap.size + 1 := (by omega); have zw6_1 : g2 < w6.heap.size := (by omega); have yw6_1 : g2 < w6.heap.size + 1 := (by omega); have zw6_2 : g3 < w6.heap.size := (by omega); have yw6_2 : g3 < w6.heap.size + 1 := (by omega); simp only [List.length_cons, List.length_nil, Nat.reduceAdd, Nat.reduceSub, List.take_succ_cons, List.take_zero, List.drop_succ_cons, List.drop_zero, List.cons_append, List.nil_append, List.append_nil])
          have H6 := Go.Lib.hid (own_below' H.out.1 hb6)
          have HB6 := Go.Lib.hid (H.out.2.trans (hb6.mono hsw))
          have hsw6 := HB6.out.size
          have e0 := hk6 0
          have e1 := hk6 1
          have e2 := hk6 2
          simp at e0 e1 e2
          have hbl : (bnd1 i ++ bnd2 i S D gap k).length = i + k := by rw [List.length_append, bnd1_len, bnd2_len]
          have HBL := Go.Lib.hid hbl
          clear H c0 c1 c2' c3 lg1 lg2 lg3 hb6 hc6 hf6 hk6 hl6 hblk6 hbl
          go_wp2_with (first | (at_builtin; refine append_bd rfl (.tmp 45) (.tmp 74) rfl w1.heap.size _ (bnd1 i ++ bnd2 i S D gap k) ⟨X, X + wd, d - (wd - 1) * gap⟩ b6 rfl rfl (own_len' H6.out HBL.out.symm) e0 e1 e2 ?_ ?_ ?_))
          · rw [HBL.out]; omega
          · omega
          intro v2 w7 hown7 hg7 _
          have hb7 : Below w1.heap.size w1 w7 := HB6.out.grown hg7 hsw6 (own_ge H6.out)
          rw [← HSUC.out] at hown7
          have H7 := Go.Lib.hid (And.intro (own_len' hown7 (show _ = i + (k + 1) by rw [bnd1_len, bnd2_len]; omega)) hb7)
          clear H6 HB6 e0 e1 e2 hown7 hg7 hb7 hsw6 HSUC
          go_wp2
          go_roundw
          case rel => exact ⟨k + 1, by omega, by go_num, H7⟩
          case measure => simp [intOf]; omega
        · have hlt' : ¬ ((k : Int) < (N : Int)) := by omega
          have hkn : k = N := by omega
          subst hkn
          have HED := Go.Lib.hid (edge_ok HOK.out)
          have hLl := bndL_len i S D gap k
          have HXL := Go.Lib.hid (edge_len HOK.out)
          have HXB := Go.Lib.hid (fun v hv => edge_bd HOK.out (v := v) hv)
          have HRES : Hid (widL i S D gap k = (List.range i).map fun j => (edgeL i S D gap k).getD (j + 1) 0 - (edgeL i S D gap k).getD j 0) := Go.Lib.hid rfl
          have HSV : Hid (∀ A c w, At w.heap.size w A (t3s (bndL i S D gap k)) → Calls Try.prog 70 #[.int .i64 ((i : Int) + 1), .slice A (i + k) c] w (IntsE (edgeL i S D gap k) 0 w)) := Go.Lib.hid fun A c w h1 => by
            have := rSolve_any w.heap.size A c ((i : Int) + 1) (bndL i S D gap k) w h1 (Nat.le_refl _) (by omega)
            rw [HED.out.e, hLl] at this
            exact this
          obtain ⟨A5, c5, rfl⟩ := own_shape H.out.1
          have hA5 : At wr.heap.size wr A5 (t3s (bndL i S D gap k)) := At.of_own H.out.1
          have hb5 := HB1.out.trans (H.out.2.mono hs1)
          have hs5 := hb5.size
          clear H hLl HED HB1 HP HW HD
          generalize edgeL i S D gap k = X at *
          generalize widL i S D gap k = Wd at *
          generalize bndL i S D gap k = L at *
          go_wp2_with fail
          refine (HSV.out _ _ _ hA5).mono ?_
          rintro e w6 ⟨A6, c6, rfl, hown6, hb6⟩
          have HX6 := Go.Lib.hid (At.of_own hown6)
          have HB26 := Go.Lib.hid (hb5.trans (hb6.mono hs5))
          clear hA5 HSV hb5 hb6 hown6
          go_wp2
          go_loopw [17, 18] (fun b_ j_ wr => ∃ j : Nat, j ≤ i ∧ j_ = .int .i64 j ∧ Hid (wr.ownsRow w6.heap.size 3 1 b_ j (ints ((List.range j).map fun j => X.getD (j + 1) 0 - X.getD j 0)) ∧ Below w6.heap.size w6 wr)) (fun _ j_ _ => i - (intOf j_).toNat)
          case atStart => exact ⟨0, by omega, rfl, Go.Lib.hid ⟨World.ownsRow_nil _ _ _ _, Below.refl _ _⟩⟩
          case round =>
            obtain ⟨j, hj, rfl, H⟩ := hrel
            have hsr := H.out.2.size
            by_cases hlt : j < i
            · have hli : (j : Int) < (i : Int) := by omega
              have hx := HX6.out.below H.out.2
              obtain ⟨g2, o, rfl, hg2, c0⟩ := hx.int (k := j) (by have := HXL.out; omega)
              obtain ⟨g2', o', he, _, c1⟩ := hx.int (k := j + 1) (by have := HXL.out; omega)
              have he1 : g2 = g2' ∧ o = o' := by
                have := Option.some.inj he
                exact ⟨congrArg Addr.block this, congrArg Addr.off this⟩
              obtain ⟨rfl, rfl⟩ := he1
              have hb0 := HXB.out j (by omega)
              have hb1 := HXB.out (j + 1) (by omega)
              have hxl := HXL.out
              have hl0 : (j : Int) < (X.length : Int) := by omega
              have hl1 : (j : Int) + 1 < (X.length : Int) := by omega
              have e0 : X.getD j 0 = X[j]'(by omega) := by simp [List.getD, show j < X.length by omega]
              have e1 : X.getD (j + 1) 0 = X[j + 1]'(by omega) := by simp [List.getD, show j + 1 < X.length by omega]
              rw [← e0] at c0
              rw [← e1] at c1
              have HSUC : Hid (((List.range (j + 1)).map fun j => X.getD (j + 1) 0 - X.getD j 0) = ((List.range j).map fun j => X.getD (j + 1) 0 - X.getD j 0) ++ [X.getD (j + 1) 0 - X.getD j 0]) := Go.Lib.hid (by simp [List.range_succ])
              have lg2 := World.block_lt_of_cell? _ _ c0
              clear e0 e1 he hx hxl
              obtain ⟨Mj, hMj⟩ : ∃ Mj, ((List.range j).map fun j => X.getD (j + 1) 0 - X.getD j 0) = Mj := ⟨_, rfl⟩
              have HML : Hid (Mj.length = j) := Go.Lib.hid (by rw [← hMj]; simp)
              rw [hMj] at HSUC H
              clear hMj
              generalize X.getD (j + 1) 0 = b1 at *
              generalize X.getD j 0 = b0 at *
              go_wp2
              (apply region_make1 (Good := NewCells wr (fun b => .slice (some ⟨b, 0, none⟩) 1 1) #[.int .i64 (b1 - b0)] 3) (W := wr) 12 11 mixed rfl rfl (by kernel_rfl) (by decide) NewCells.mono; (focus (intro V hV; have hsV := hV.size; obtain ⟨hcV, hfV⟩ := bcell hV; have zV_0 : g2 < V.heap.size := (by omega); have yV_0 : g2 < V.heap.size + 1 := (by omega); simp only [List.length_cons, List.length_nil, Nat.reduceAdd, Nat.reduceSub, List.take_succ_cons, List.take_zero, List.drop_succ_cons, List.drop_zero, List.cons_append, List.nil_append, List.append_nil]; (repeat (go_big_quiet_step (fail))); exact wpQuiet_nil rfl)); (focus (exact makes_new fun w => by simp [go_sem])); rintro v w8 ⟨b8, hge8, hlt8, hblk8, rfl⟩ hb8; have hs8 := hb8.size; obtain ⟨hc8, hf8⟩ := bcell hb8; have hk8 := blk_cell hblk8; have hl8 := blk_frozen hblk8; have zw8_0 : g2 < w8.heap.size := (by omega); have yw8_0 : g2 < w8.heap.size + 1 := (by omega); simp only [List.length_cons, List.length_nil, Nat.reduceAdd, Nat.reduceSub, List.take_succ_cons, List.take_zero, List.drop_succ_cons, List.drop_zero, List.cons_append, List.nil_append, List.append_nil])
              have H8 := Go.Lib.hid (own_below' H.out.1 hb8)
              have HB8 := Go.Lib.hid (H.out.2.trans (hb8.mono hsr))
              have hsw8 := HB8.out.size
              have e0 := hk8 0
              simp at e0
              clear H c0 c1 lg2 hb8 hc8 hf8 hk8 hl8 hblk8
              go_wp2_with (first | (at_builtin; refine append_num rfl (.tmp 88) (.tmp 99) rfl w6.heap.size _ Mj (b1 - b0) b8 rfl rfl (own_len' H8.out HML.out.symm) e0 ?_ ?_ ?_))
              · rw [HML.out]; omega
              · omega
              intro v2 w7 hown7 hg7 _
              have hb7 : Below w6.heap.size w6 w7 := HB8.out.grown hg7 hsw8 (own_ge H8.out)
              rw [← HSUC.out] at hown7
              have H7 := Go.Lib.hid (And.intro (own_len' hown7 (show _ = j + 1 by first | (simp; done) | (rw [HML.out]))) hb7)
              clear H8 HB8 e0 hown7 hg7 hb7 hsw8 HSUC
              go_wp2
              go_roundw
              case rel => exact ⟨j + 1, by omega, by go_num, H7⟩
              case measure => simp [intOf]; omega
            · have hlt' : ¬ ((j : Int) < (i : Int)) := by omega
              have hji : j = i := by omega
              subst hji
              have hown := H.out.1
              have hbz := H.out.2
              rw [← HRES.out] at hown
              obtain ⟨A7, c7, rfl⟩ := own_shape hown
              clear H
              go_wp2
              go_ret
              exact IntsPost.mk (by rw [HRES.out]; simp) (own_mono hown HB26.out.size) (HB26.out.trans (hbz.mono HB26.out.size))
end Go.Proofs.Ytjippgflempdmaa
