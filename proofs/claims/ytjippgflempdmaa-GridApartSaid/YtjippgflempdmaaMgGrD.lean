/- Layer 11: the rows' heights: plain; the program's. -/
import Derived.Test.YtjippgflempdmaaMgGrC
namespace Go.Proofs.Ytjippgflempdmaa
set_option linter.unusedVariables false
set_option linter.unusedSimpArgs false
set_option maxRecDepth 100000
open Go.RowKit
attribute [local go_sem] max_fold min_fold

/-- How many rows there are, after i things. -/
def rwN (n : Int) (S : List Int) : Nat → Nat
  | 0 => 0
  | i + 1 => rowP n S i + 1
def hgtF (n : Int) (S D : List Int) : Nat → Nat → Int
  | 0, _ => 0
  | i + 1, y => if y = rowP n S i then max (hgtF n S D i y) (D.getD i 0) else hgtF n S D i y
def hgtX (n : Int) (S D : List Int) (R i : Nat) : List Int := (List.range R).map (hgtF n S D i)
def hgtL (n : Int) (S D : List Int) (N : Nat) : List Int := hgtX n S D (rwN n S N) N
theorem rw_len {n : Int} (hn : 1 ≤ n) (S : List Int) (N : Nat) : (stB n S N).length = rwN n S N := by
  have h := stB_ok hn S N
  cases N with
  | zero => rw [h.none rfl]; rfl
  | succ N => rw [h.len (by omega)]; rfl
theorem rw_step {n : Int} (hn : 1 ≤ n) (S : List Int) (i : Nat) : (rowP n S i = rwN n S i ∧ rwN n S (i + 1) = rwN n S i + 1) ∨ (rowP n S i < rwN n S i ∧ rwN n S (i + 1) = rwN n S i) := by
  cases i with
  | zero =>
    left
    have := row_zero hn S
    exact ⟨this, by show rowP n S 0 + 1 = 0 + 1; rw [this]⟩
  | succ i =>
    have h := row_step n S i
    show (rowP n S (i + 1) = rowP n S i + 1 ∧ rowP n S (i + 1) + 1 = rowP n S i + 1 + 1) ∨ (rowP n S (i + 1) < rowP n S i + 1 ∧ rowP n S (i + 1) + 1 = rowP n S i + 1)
    omega
theorem rw_le {n : Int} (hn : 1 ≤ n) (S : List Int) {i N : Nat} (h : i ≤ N) : rwN n S i ≤ rwN n S N := by
  induction N with
  | zero => rw [show i = 0 by omega]; exact Nat.le_refl _
  | succ N ih =>
    by_cases e : i = N + 1
    · rw [e]; exact Nat.le_refl _
    · have h1 := ih (by omega)
      rcases rw_step hn S N with ⟨_, h2⟩ | ⟨_, h2⟩ <;> omega
theorem rw_lt {n : Int} (hn : 1 ≤ n) (S : List Int) {i N : Nat} (h : i < N) : rowP n S i < rwN n S N := by
  have h1 := rw_le hn S (show i + 1 ≤ N from h)
  have h2 : rwN n S (i + 1) = rowP n S i + 1 := rfl
  omega
theorem rw_most {n : Int} (hn : 1 ≤ n) (S : List Int) (N : Nat) : rwN n S N ≤ N := by
  cases N with
  | zero => exact Nat.le_refl _
  | succ N =>
    have := row_le hn S N
    show rowP n S N + 1 ≤ N + 1
    omega
theorem hgt_none {n : Int} (hn : 1 ≤ n) (S D : List Int) : ∀ i y, rwN n S i ≤ y → hgtF n S D i y = 0 := by
  intro i
  induction i with
  | zero => exact fun _ _ => rfl
  | succ i ih =>
    intro y hy
    have h1 := rw_lt hn S (show i < i + 1 by omega)
    show (if y = rowP n S i then _ else _) = _
    rw [if_neg (by omega)]
    exact ih y (Nat.le_trans (rw_le hn S (by omega)) hy)
theorem hgt_bd {n : Int} {S D : List Int} {N : Nat} (hd : ∀ i, i < N → 0 ≤ D.getD i 0 ∧ D.getD i 0 ≤ 16384) : ∀ i, i ≤ N → ∀ y, 0 ≤ hgtF n S D i y ∧ hgtF n S D i y ≤ 16384 := by
  intro i
  induction i with
  | zero => intro _ y; show 0 ≤ (0 : Int) ∧ (0 : Int) ≤ 16384; omega
  | succ i ih =>
    intro hi y
    have h1 := ih (by omega) y
    have h2 := hd i (by omega)
    show 0 ≤ (if y = rowP n S i then _ else _) ∧ (if y = rowP n S i then _ else _) ≤ 16384
    split <;> omega
/-- No row is less high than its things. -/
theorem hgt_ge {n : Int} {S D : List Int} {N : Nat} : ∀ {i k : Nat}, i < k → k ≤ N → D.getD i 0 ≤ hgtF n S D k (rowP n S i) := by
  intro i k
  induction k with
  | zero => intro h; omega
  | succ k ih =>
    intro h hk
    show _ ≤ (if rowP n S i = rowP n S k then _ else _)
    by_cases e : i = k
    · subst e
      rw [if_pos rfl]
      omega
    · have := ih (by omega) (by omega)
      split <;> omega
theorem hgtX_len (n : Int) (S D : List Int) (R i : Nat) : (hgtX n S D R i).length = R := by simp [hgtX]
theorem hgtX_at {n : Int} {S D : List Int} {R i y : Nat} (h : y < R) : (ints (hgtX n S D R i))[y]? = some (.int .i64 (hgtF n S D i y)) := by
  rw [ints_at _ y (by rw [hgtX_len]; exact h)]
  simp [hgtX]
theorem hgtX_set (n : Int) (S D : List Int) (R i : Nat) : (hgtX n S D R i).set (rowP n S i) (max (hgtF n S D i (rowP n S i)) (D.getD i 0)) = hgtX n S D R (i + 1) := by
  unfold hgtX
  rw [set_range]
  refine map_range_congr fun j _ => ?_
  show _ = (if j = rowP n S i then _ else _)
  by_cases e : j = rowP n S i
  · rw [if_pos e, if_pos e, e]
  · rw [if_neg e, if_neg e]
theorem hgtX_zero (n : Int) (S D : List Int) (R : Nat) : hgtX n S D R 0 = List.replicate R 0 := by
  rw [replicate_range]
  rfl
theorem hgtX_push {n : Int} (hn : 1 ≤ n) (S D : List Int) (i : Nat) : hgtX n S D (rwN n S i) i ++ [0] = hgtX n S D (rwN n S i + 1) i := by
  unfold hgtX
  rw [List.range_succ, List.map_append]
  simp only [List.map_cons, List.map_nil]
  rw [hgt_none hn S D i _ (Nat.le_refl _)]

/-! The program's. -/
structure HSt (w : World) (F : Nat) (caps : Array Value) (qo qn g R : Nat) (X : List Int) (wr : World) : Prop where
  below : Below w.heap.size w wr
  bo : wr.heap[qo]? = some (.cells #[.slice (some ⟨g, 0, none⟩) R R] 23 (0, 0))
  bn : wr.heap[qn]? = some (.cells #[.func (.func F) #[] caps] 66 (0, 0))
  own : wr.ownsRow w.heap.size 3 1 (.slice (some ⟨g, 0, none⟩) R R) R (ints X)
  gg : w.heap.size ≤ g ∧ g ≠ qo ∧ g ≠ qn
theorem HSt.on {w wr w' : World} {F : Nat} {caps : Array Value} {qo qn g R : Nat} {X : List Int} (h : HSt w F caps qo qn g R X wr) (hb : Below wr.heap.size wr w') : HSt w F caps qo qn g R X w' :=
  ⟨h.below.trans (hb.mono h.below.size), (hb.block _ (blk_lt2 h.bo)).trans h.bo, (hb.block _ (blk_lt2 h.bn)).trans h.bn, own_below' h.own hb, h.gg⟩
theorem HSt.put {w wr : World} {F : Nat} {caps : Array Value} {qo qn g R : Nat} {X : List Int} (h : HSt w F caps qo qn g R X wr) (k : Nat) (u : Int) : HSt w F caps qo qn g R (X.set k u) (wr.setCell ⟨g, k, none⟩ (.int .i64 u)) := by
  obtain ⟨h1, h2, h3⟩ := h.gg
  refine ⟨h.below.setCell (p := ⟨g, k, none⟩) h1 _, ?_, ?_, ?_, h.gg⟩
  · rw [heap_setCell_other _ _ _ _ (Ne.symm h2)]
    exact h.bo
  · rw [heap_setCell_other _ _ _ _ (Ne.symm h3)]
    exact h.bn
  · have := own_store h.own k (.int .i64 u)
    rwa [ints_set] at this

set_option maxRecDepth 100000 in
set_option maxHeartbeats 1000000 in
theorem hadd_any {w wr : World} {F : Nat} {caps : Array Value} {qo qn g R : Nat} {X : List Int} (h : HSt w F caps qo qn g R X wr) (eg : ∀ args w, (callFunc F args).run Try.prog w = .ok (.enter F args) w) (hR : R ≤ 1024) (i y : Nat) (hy : y < R) (x wd d o : Int) (ho : (ints X)[y]? = some (.int .i64 o))
    (hob : 0 ≤ o ∧ o ≤ 16384) (hd : 0 ≤ d ∧ d ≤ 16384) (hneed : ∀ V, Below wr.heap.size wr V → Calls Try.prog F (#[.int .i64 i] ++ caps) V fun e w' => e = .returned (.int .i64 d) ∧ Below V.heap.size V w') :
    Calls Try.prog 68 #[.agg #[.int .i64 x, .int .i64 wd, .int .i64 i], .int .i64 y, .pointer (some ⟨qo, 0, none⟩), .pointer (some ⟨qn, 0, none⟩)] wr fun e w' => e = .returned (.tuple #[]) ∧ HSt w F caps qo qn g R (X.set y (max o d)) w' := by
  have HN := Go.Lib.hid hneed
  have H := Go.Lib.hid h
  have hyi : (y : Int) < (R : Int) := by omega
  clear h hneed
  go_enter Try.func68, Try.ntmps68
  go_wp2
  have hbk := alloc_at wr (.cells #[.int .i64 x, .int .i64 wd, .int .i64 i] 63)
  have hba := (Below.refl wr.heap.size wr).alloc (Nat.le_refl _) (.cells #[.int .i64 x, .int .i64 wd, .int .i64 i] 63)
  have H1 := Go.Lib.hid (H.out.on hba)
  generalize World.alloc wr _ = w1 at *
  generalize wr.heap.size = qt at *
  have ko : w1.cell? ⟨qo, 0, none⟩ = some (.slice (some ⟨g, 0, none⟩) R R) := by have := blk_cell H1.out.bo 0; simpa using this
  have kn : w1.cell? ⟨qn, 0, none⟩ = some (.func (.func F) #[] caps) := by have := blk_cell H1.out.bn 0; simpa using this
  have t2 : w1.cell? ⟨qt, 2, none⟩ = some (.int .i64 i) := by have := blk_cell hbk 2; simpa using this
  have hcell := H1.out.own.cellAt y (by omega)
  rw [ho] at hcell
  have hfr := H1.out.own.frozenAt y
  have lo : qo < w1.heap.size := World.block_lt_of_cell? _ _ ko
  have ln : qn < w1.heap.size := World.block_lt_of_cell? _ _ kn
  have lt : qt < w1.heap.size := World.block_lt_of_cell? _ _ t2
  have lg : g < w1.heap.size := World.block_lt_of_cell? _ _ hcell
  have HNV : Hid (∀ x : Ext w1, Calls Try.prog F (#[.int .i64 i] ++ caps) (ext x) fun e w' => e = .returned (.int .i64 d) ∧ Below (ext x).heap.size (ext x) w') := Go.Lib.hid fun x => HN.out _ (hba.trans (x.2.mono (by omega)))
  clear hbk H HN ho
  refine region_ext_last 1 mixed (by kernel_rfl) ?_
  simp only [List.length_cons, List.length_nil, Nat.reduceAdd, Nat.reduceSub, List.take_succ_cons, List.take_zero, List.drop_succ_cons, List.drop_zero]
  (repeat (go_big_quiet_step (with_reducible exact in_ext (HNV.out _))))
  refine wpQuiet_nil ?_
  intro w9 hb9
  obtain ⟨hc9, hf9⟩ := bcell hb9
  have H9 := Go.Lib.hid ((H1.out.on hb9).put y (max o d))
  rw [← hc9 _ _ lg] at hcell
  rw [← hf9 _ _ lg] at hfr
  have l9 : g < w9.heap.size := Nat.lt_of_lt_of_le lg hb9.size
  clear H1 HNV ko kn t2 lo ln lt lg hc9 hf9 hb9 eg hba
  go_wp2
  go_end0
  exact ⟨rfl, H9.out⟩
end Go.Proofs.Ytjippgflempdmaa

/- Layer 11: the rows' heights, both sides. -/
namespace Go.Proofs.Ytjippgflempdmaa
set_option linter.unusedVariables false
set_option linter.unusedSimpArgs false
set_option maxRecDepth 100000
open Go.RowKit
attribute [local go_sem] max_fold min_fold

theorem enters_hadd : Enters Try.prog 68 := enters_of Try.func68 (by kernel_rfl) rfl
theorem make_int (n : Nat) (hn : n ≤ 1000000) (w : World) : (Instr.makeSlice 23 (.int .i64 (n : Int)) (.int .i64 (n : Int))).run Try.prog w = .ok (.slice (some ⟨w.heap.size, 0, none⟩) n n) (w.alloc (.cells (madeCells #[.int .i64 0] n) 3)) :=
  run_make_row' 23 3 (.int .i64 0) 8 Try.underlying23 info_int rfl .i64 .i64 n (by omega) (by omega) w

set_option maxRecDepth 100000 in
set_option maxHeartbeats 1000000 in
theorem heights_any (F : Nat) (caps : Array Value) (eg : ∀ args w, (callFunc F args).run Try.prog w = .ok (.enter F args) w) (n : Int) (hn : 1 ≤ n) (S D : List Int) (N : Nat) (hN : N ≤ 1024) (hd : ∀ i, i < N → 0 ≤ D.getD i 0 ∧ D.getD i 0 ≤ 16384) (A : Option Addr) (c : Nat) (Z : List Rw) (hrec : recs n S N Z) (w : World) (hrows : RowsAt n S A Z w)
    (hneed : ∀ i, i < N → ∀ V, Below w.heap.size w V → Calls Try.prog F (#[.int .i64 i] ++ caps) V fun e w' => e = .returned (.int .i64 (D.getD i 0)) ∧ Below V.heap.size V w') :
    Calls Try.prog 41 #[.slice A Z.length c, .func (.func F) #[] caps] w (IntsPost (hgtL n S D N) w) := by
  have HREC := Go.Lib.hid hrec
  have HROWS := Go.Lib.hid hrows
  have HNEED := Go.Lib.hid hneed
  have HEG := Go.Lib.hid eg
  have HD := Go.Lib.hid hd
  obtain ⟨R, hR⟩ : ∃ R, Z.length = R := ⟨_, rfl⟩
  have HRR := Go.Lib.hid hR
  have hRw : R = rwN n S N := by rw [← hR, ← recs_len hrec, rw_len hn]
  have HRW := Go.Lib.hid hRw
  have hRN : R ≤ 1024 := by have := rw_most hn S N; omega
  have hmk := make_int R (by omega)
  rw [hR]
  clear hrec hrows hneed eg hR hRw hd
  go_enter Try.func41, Try.ntmps41
  go_wp2_with fail
  clear hmk
  have hst : HSt w F caps (w.heap.size + 2) w.heap.size (w.heap.size + 1) R (hgtX n S D R 0) (((w.alloc (.cells #[.func (.func F) #[] caps] 66)).alloc (.cells (madeCells #[.int .i64 0] R) 3)).alloc (.cells #[.slice (some ⟨w.heap.size + 1, 0, none⟩) R R] 23)) := by
    refine ⟨(((Below.refl _ _).alloc (Nat.le_refl _) _).alloc (by simp) _).alloc (by simp; omega) _, ?_, ?_, ?_, by omega⟩
    · have := alloc_at ((w.alloc (.cells #[.func (.func F) #[] caps] 66)).alloc (.cells (madeCells #[.int .i64 0] R) 3)) (.cells #[.slice (some ⟨w.heap.size + 1, 0, none⟩) R R] 23)
      simpa using this
    · rw [Below.heap_alloc _ _ _ (by simp; omega), Below.heap_alloc _ _ _ (by simp), alloc_at]
    · rw [hgtX_zero]
      refine own_row (by omega) (by omega) ?_
      rw [Below.heap_alloc _ _ _ (by simp), alloc_two]
  have HST := Go.Lib.hid hst
  clear hst
  generalize World.alloc (World.alloc (World.alloc w _) _) _ = w1 at *
  have e2 : w.heap.size + 1 + 1 = w.heap.size + 2 := rfl
  rw [e2]
  obtain ⟨qo, hqo⟩ : ∃ q, w.heap.size + 2 = q := ⟨_, rfl⟩
  obtain ⟨g, hg⟩ : ∃ q, w.heap.size + 1 = q := ⟨_, rfl⟩
  obtain ⟨qn, hqn⟩ : ∃ q, w.heap.size = q := ⟨_, rfl⟩
  rw [hqo] at HST ⊢
  rw [hg] at HST ⊢
  rw [hqn] at HST ⊢
  clear e2 hqo hg hqn
  have HE : Hid (Calls Try.prog 33 #[.slice A Z.length c, .func (.func 68) #[] #[.pointer (some ⟨qo, 0, none⟩), .pointer (some ⟨qn, 0, none⟩)]] w1 fun e w' => e = .returned (.tuple #[]) ∧ HSt w F caps qo qn g R (hgtL n S D N) w') := Go.Lib.hid (by
    have := each_any 68 #[.pointer (some ⟨qo, 0, none⟩), .pointer (some ⟨qn, 0, none⟩)] (fun a w => enters_hadd a w) n hn S N hN A c Z HREC.out (fun k wr => HSt w F caps qo qn g R (hgtX n S D R k) wr)
      (fun k wr h => HROWS.out.on h.below) (fun k wr w' h hb => h.on hb)
      (fun k wr hk h => by
        have hy : rowP n S k < R := by rw [HRW.out]; exact rw_lt hn S hk
        have := hadd_any h HEG.out hRN k (rowP n S k) hy (colP n S k) (wideP n S k) (D.getD k 0) (hgtF n S D k (rowP n S k)) (hgtX_at hy) (hgt_bd HD.out k (by omega) _) (HD.out k hk) (fun V hV => HNEED.out k hk V (h.below.trans (hV.mono h.below.size)))
        rw [hgtX_set] at this
        exact this) w1 HST.out
    unfold hgtL
    rw [← HRW.out]
    exact this)
  rw [HRR.out] at HE
  clear HST
  refine HE.out.mono ?_
  rintro e w5 ⟨rfl, h5⟩
  have ko : w5.cell? ⟨qo, 0, none⟩ = some (.slice (some ⟨g, 0, none⟩) R R) := by have := blk_cell h5.bo 0; simpa using this
  have hown := h5.own
  have hbel := h5.below
  clear h5 HE
  go_wp2
  go_ret
  exact IntsPost.mk (by unfold hgtL; rw [hgtX_len, ← HRW.out]) hown hbel

set_option maxRecDepth 100000 in
set_option maxHeartbeats 4000000 in
theorem rheights_any (B : Nat) (A A2 : Option Addr) (c c2 : Nat) (n : Int) (S D : List Int) (col : Int) (w : World) (hA : At B w A (ints S)) (hA2 : At B w A2 (ints D)) (hB : B ≤ w.heap.size) (hl : S.length ≤ 1024) (hDl : D.length = S.length) (hd : ∀ i, i < S.length → 0 ≤ D.getD i 0 ∧ D.getD i 0 ≤ 16384) (hcol : max col 1 = n) (hn2 : n ≤ 64) :
    Calls Try.prog 50 #[.slice A S.length c, .slice A2 D.length c2, .int .i64 col] w (IntsPost (hgtL n S D S.length) w) := by
  have hn1 : 1 ≤ n := by omega
  have HC := Go.Lib.hid (rcells_any B A c S col n w hA hB hl hcol hn2)
  obtain ⟨N, hN⟩ : ∃ N, S.length = N := ⟨_, rfl⟩
  rw [hDl]
  rw [hN] at HC hl hDl hd ⊢
  have HDL := Go.Lib.hid hDl
  have HDB := Go.Lib.hid hd
  clear hN hDl hA hd hcol
  go_enter Try.func50, Try.ntmps50
  go_wp2_with fail
  refine HC.out.mono ?_
  rintro e w1 ⟨Ap, cp, Aw, cw, rfl, H1⟩
  have HB1 := Go.Lib.hid H1.below
  have hs1 := H1.below.size
  have HP := Go.Lib.hid (At.of_own H1.o1)
  have HD := Go.Lib.hid ((hA2.below (H1.below.mono hB)).mono (Nat.le_trans hB hs1))
  clear HC H1 hA2
  go_wp2
  go_loopw [9, 10] (fun b_ i_ wr => ∃ i : Nat, i ≤ N ∧ i_ = .int .i64 i ∧ Hid (wr.ownsRow w1.heap.size 3 1 b_ (rwN n S i) (ints (hgtX n S D (rwN n S i) i)) ∧ Below w1.heap.size w1 wr)) (fun _ i_ _ => N - (intOf i_).toNat)
  case atStart => exact ⟨0, by omega, rfl, Go.Lib.hid ⟨World.ownsRow_nil _ _ _ _, Below.refl _ _⟩⟩
  case round =>
    obtain ⟨i, hi, rfl, H⟩ := hrel
    have hsw := H.out.2.size
    by_cases hlt : i < N
    · have hli : (i : Int) < (N : Int) := by omega
      have hkp : i < (ptsL n S N).length := by rw [ptsL_len]; exact hlt
      have hkd : i < D.length := by have := HDL.out; omega
      obtain ⟨g1, o1, rfl, hg1, cx, cy⟩ := (HP.out.below H.out.2).t2 hkp
      obtain ⟨g3, o3, rfl, hg3, c3⟩ := (HD.out.below H.out.2).int hkd
      rw [show (ptsL n S N)[i] = ⟨colP n S i, (rowP n S i : Int)⟩ by simp [ptsL]] at cx cy
      rw [show D[i] = D.getD i 0 by simp [List.getD, hkd]] at c3
      have lg1 := World.block_lt_of_cell? _ _ cy
      have lg3 := World.block_lt_of_cell? _ _ c3
      have hdb := HDB.out i hlt
      obtain ⟨A4, c4, rfl⟩ := own_shape H.out.1
      have hrs := rw_step hn1 S i
      have hrN := rw_most hn1 S N
      have hri := rw_lt hn1 S hlt
      have hrle := rw_le hn1 S hi
      rcases hrs with ⟨hr1, hr2⟩ | ⟨hr1, hr2⟩
      · have hpush := hgtX_push hn1 S D i
        have HPU := Go.Lib.hid hpush
        rw [← hr2] at hpush
        have HX := Go.Lib.hid hpush
        obtain ⟨R, hR⟩ : ∃ R, rwN n S (i + 1) = R := ⟨_, rfl⟩
        rw [hR] at hr2 HX
        clear hpush HPU
        clear hrle
        generalize rwN n S i = y2 at *
        generalize hyy : rowP n S i = y at *
        subst hr1
        generalize hdd : D.getD i 0 = d at *
        have HL : Hid ((hgtX n S D y i).length = y) := Go.Lib.hid (hgtX_len _ _ _ _ _)
        go_wp2_with (first | (at_builtin; refine append_num rfl (.tmp 31) (.tmp 32) rfl w1.heap.size _ (hgtX n S D y i) 0 wr.heap.size rfl rfl (own_len' (H.out.1.alloc _) HL.out.symm) (by simp [go_sem]) ?_ ?_ ?_))
        · rw [HL.out]; omega
        · (try simp); omega
        intro v2 w4 hown4 hg4 _
        rw [HX.out] at hown4
        have hb4 : Below w1.heap.size w1 w4 := (H.out.2.alloc hsw _).grown hg4 (by simp; omega) (own_ge H.out.1)
        have hb34 : ∀ b o, b < w1.heap.size → w4.cell? ⟨b, o, none⟩ = wr.cell? ⟨b, o, none⟩ := fun b o hb => ((bcell hb4).1 b o hb).trans ((bcell H.out.2).1 b o hb).symm
        rw [← hb34 _ _ hg1] at cx cy
        rw [← hb34 _ _ hg3] at c3
        have lg1 : g1 < w4.heap.size := Nat.lt_of_lt_of_le hg1 hb4.size
        have lg3 : g3 < w4.heap.size := Nat.lt_of_lt_of_le hg3 hb4.size
        have hown5 := own_len' hown4 (show _ = R by first | (rw [List.length_append, HL.out, hr2]; rfl) | (rw [HL.out, hr2]))
        obtain ⟨A5, c5, rfl⟩ := own_shape hown5
        obtain ⟨g5, rfl, _, _⟩ := own_head hown5 (by omega)
        have HRY := Go.Lib.hid hr2
        clear hown4 hg4 hb34 H HL HX hsw
        have HRI := Go.Lib.hid hR
        have HH : Hid (w4.ownsRow w1.heap.size 3 1 (.slice (some ⟨g5, 0, none⟩) R c5) R (ints (hgtX n S D R i)) ∧ Below w1.heap.size w1 w4) := Go.Lib.hid ⟨hown5, hb4⟩
        have hsz := HH.out.2.size
        have hG : w1.heap.size ≤ g5 := own_ge HH.out.1 _ rfl
        have hyR : (y : Int) < (R : Int) := by omega
        have ho := hgtX_at (n := n) (S := S) (D := D) (i := i) (show y < R by omega)
        have hob := hgt_bd (n := n) (S := S) HDB.out i (by omega) y
        have hcell := HH.out.1.cellAt y (by omega)
        rw [ho] at hcell
        have hfr := HH.out.1.frozenAt y
        have lg := World.block_lt_of_cell? _ _ hcell
        have HSET : Hid ((hgtX n S D R i).set y (max (hgtF n S D i y) d) = hgtX n S D R (i + 1)) := Go.Lib.hid (by rw [← hyy, ← hdd]; exact hgtX_set n S D R i)
        generalize hgtF n S D i y = o at *
        clear ho hr2 hyy hdd hown5 hb4 hR
        go_wp2
        refine region_ext_last 1 mixed (by kernel_rfl) ?_
        simp only [List.length_cons, List.length_nil, Nat.reduceAdd, Nat.reduceSub, List.take_succ_cons, List.take_zero, List.drop_succ_cons, List.drop_zero]
        (repeat (go_big_quiet_step (fail)))
        refine wpQuiet_nil ?_
        intro w9 hb9
        obtain ⟨hc9, hf9⟩ := bcell hb9
        have hst := own_store (own_below' HH.out.1 hb9) y (.int .i64 (max o d))
        rw [ints_set, HSET.out] at hst
        have H9 := Go.Lib.hid (And.intro hst ((HH.out.2.trans (hb9.mono hsz)).setCell (p := ⟨g5, y, none⟩) hG (.int .i64 (max o d))))
        rw [← hc9 _ _ lg] at hcell
        rw [← hf9 _ _ lg] at hfr
        have l9 : g5 < w9.heap.size := Nat.lt_of_lt_of_le lg hb9.size
        clear HH HSET hst hc9 hf9 hb9 lg lg1 lg3 cx cy c3
        go_wp2
        go_roundw
        case rel => exact ⟨i + 1, by omega, by go_num, by rw [HRI.out]; have h := H9; rw [HRY.out] at h ⊢; exact h⟩
        case measure => simp [intOf]; omega
      · have heq : ((rowP n S i : Int) == (rwN n S i : Int)) = false := by
          simp only [beq_eq_false_iff_ne, ne_eq]
          omega
        obtain ⟨g5, rfl, _, _⟩ := own_head H.out.1 (by omega)
        generalize rwN n S i = R at *
        generalize hyy : rowP n S i = y at *
        generalize hdd : D.getD i 0 = d at *
        have hne : ¬ ((y : Int) = (R : Int)) := by omega
        have HRI := Go.Lib.hid hr2
        have HH : Hid (wr.ownsRow w1.heap.size 3 1 (.slice (some ⟨g5, 0, none⟩) R c4) R (ints (hgtX n S D R i)) ∧ Below w1.heap.size w1 wr) := Go.Lib.hid ⟨H.out.1, H.out.2⟩
        have hsz := HH.out.2.size
        have hG : w1.heap.size ≤ g5 := own_ge HH.out.1 _ rfl
        have hyR : (y : Int) < (R : Int) := by omega
        have ho := hgtX_at (n := n) (S := S) (D := D) (i := i) (show y < R by omega)
        have hob := hgt_bd (n := n) (S := S) HDB.out i (by omega) y
        have hcell := HH.out.1.cellAt y (by omega)
        rw [ho] at hcell
        have hfr := HH.out.1.frozenAt y
        have lg := World.block_lt_of_cell? _ _ hcell
        have HSET : Hid ((hgtX n S D R i).set y (max (hgtF n S D i y) d) = hgtX n S D R (i + 1)) := Go.Lib.hid (by rw [← hyy, ← hdd]; exact hgtX_set n S D R i)
        generalize hgtF n S D i y = o at *
        clear ho hr2 hyy hdd hr1 hne heq
        go_wp2
        refine region_ext_last 1 mixed (by kernel_rfl) ?_
        simp only [List.length_cons, List.length_nil, Nat.reduceAdd, Nat.reduceSub, List.take_succ_cons, List.take_zero, List.drop_succ_cons, List.drop_zero]
        (repeat (go_big_quiet_step (fail)))
        refine wpQuiet_nil ?_
        intro w9 hb9
        obtain ⟨hc9, hf9⟩ := bcell hb9
        have hst := own_store (own_below' HH.out.1 hb9) y (.int .i64 (max o d))
        rw [ints_set, HSET.out] at hst
        have H9 := Go.Lib.hid (And.intro hst ((HH.out.2.trans (hb9.mono hsz)).setCell (p := ⟨g5, y, none⟩) hG (.int .i64 (max o d))))
        rw [← hc9 _ _ lg] at hcell
        rw [← hf9 _ _ lg] at hfr
        have l9 : g5 < w9.heap.size := Nat.lt_of_lt_of_le lg hb9.size
        clear HH HSET hst hc9 hf9 hb9 lg lg1 lg3 cx cy c3
        go_wp2
        go_roundw
        case rel => exact ⟨i + 1, by omega, by go_num, by rw [HRI.out]; exact H9⟩
        case measure => simp [intOf]; omega
    · have hlt' : ¬ ((i : Int) < (N : Int)) := by omega
      have hin : i = N := by omega
      subst hin
      obtain ⟨A4, c4, rfl⟩ := own_shape H.out.1
      have hown := H.out.1
      have hbz := H.out.2
      clear H
      go_wp2
      go_ret
      exact IntsPost.mk (by unfold hgtL; rw [hgtX_len]) (own_mono hown hs1) (HB1.out.trans (hbz.mono hs1))
end Go.Proofs.Ytjippgflempdmaa

/- Layer 11: Widths and Heights, the program's: what is asked first. -/
namespace Go.Proofs.Ytjippgflempdmaa
set_option linter.unusedVariables false
set_option linter.unusedSimpArgs false
set_option maxRecDepth 100000
open Go.RowKit
attribute [local go_sem] max_fold min_fold

/-! Facts for 'region_mono'. -/
def Stable (g : Value → World → Prop) : Prop := ∀ v w w', g v w → Below w.heap.size w w' → g v w'
def IsV (x : Value) : Value → World → Prop := fun v _ => v = x
def BlkV (cs : Array Value) (t : TypeId) (k : Nat) : Value → World → Prop := fun v w => ∃ g, v = .slice (some ⟨g, 0, none⟩) k k ∧ w.heap[g]? = some (.cells cs t (0, 0))
theorem IsV.stable (x : Value) : Stable (IsV x) := fun _ _ _ h _ => h
theorem BlkV.stable (cs : Array Value) (t : TypeId) (k : Nat) : Stable (BlkV cs t k) := fun _ _ _ ⟨g, e, h⟩ hb => ⟨g, e, (hb.block _ (blk_lt2 h)).trans h⟩
def pick (Gs : List (Value → World → Prop)) (i : Nat) (v : Value) (w : World) : Prop := (Gs.getD i fun _ _ => True) v w
theorem pick_stable {Gs : List (Value → World → Prop)} (h : ∀ g ∈ Gs, Stable g) : ∀ i v w w', pick Gs i v w → Below w.heap.size w w' → pick Gs i v w' := by
  intro i
  unfold pick
  by_cases hi : i < Gs.length
  · rw [show Gs.getD i (fun _ _ => True) = Gs[i] by simp [List.getD, hi]]
    exact h _ (List.getElem_mem hi)
  · rw [show Gs.getD i (fun _ _ => True) = fun _ _ => True by simp [List.getD, show Gs.length ≤ i by omega]]
    exact fun _ _ _ _ _ => trivial

def widE (S D : List Int) (col gap : Int) : Int := if askE [numE 64 S, numE 16384 D, num1 64 col, num1 16384 gap] = 0 then (if S.length = D.length then 0 else 110) else askE [numE 64 S, numE 16384 D, num1 64 col, num1 16384 gap]
def widR (S D : List Int) (col gap : Int) : List Int := if widE S D col gap = 0 then widL (max col 1).toNat S D gap S.length else []
def hgtE (S D : List Int) (col : Int) : Int := if askE [numE 64 S, numE 16384 D, num1 64 col] = 0 then (if S.length = D.length then 0 else 110) else askE [numE 64 S, numE 16384 D, num1 64 col]
def hgtR (S D : List Int) (col : Int) : List Int := if hgtE S D col = 0 then hgtL (max col 1) S D S.length else []

theorem same_up {P : Program} {f : FuncId} {args : Array Value} {w : World} {x : Value} (h : Calls P f args w fun e w' => e = .returned x ∧ w = w') : Calls P f args w fun e w'' => ∃ v, e = .returned v ∧ v = x ∧ Below w.heap.size w w'' :=
  h.mono fun _ _ ⟨he, hw⟩ => ⟨x, he, rfl, hw ▸ Below.refl _ _⟩
theorem below_up {P : Program} {f : FuncId} {args : Array Value} {w : World} {x : Value} (h : Calls P f args w fun e w' => e = .returned x ∧ Below w.heap.size w w') : Calls P f args w fun e w'' => ∃ v, e = .returned v ∧ v = x ∧ Below w.heap.size w w'' :=
  h.mono fun _ _ ⟨he, hw⟩ => ⟨x, he, rfl, hw⟩
theorem numbers_at (g : Nat) (most v : Int) (w : World) {cs : Array Value} {t : TypeId} (h : w.heap[g]? = some (.cells cs t (0, 0))) (hcs : cs = #[.int .i64 v]) : Calls Try.prog 32 #[.int .i64 most, .slice (some ⟨g, 0, none⟩) 1 1] w fun e w' => e = .returned (.int .i64 (num1 most v)) ∧ w = w' := by
  subst hcs
  have h2 : At w.heap.size w (some ⟨g, 0, none⟩) (ints [v]) := At.block (t := t) (by simpa [ints] using h)
  have := numbers_any _ _ 1 most [v] _ h2 (by simp)
  rw [numE_one] at this
  exact this

set_option maxRecDepth 100000 in
set_option maxHeartbeats 1000000 in
theorem need_any9 (q : Nat) (A2 : Option Addr) (c2 M B : Nat) (D : List Int) (w : World) (hq : w.heap[q]? = some (.cells #[.slice A2 M c2] 23 (0, 0))) (hA2 : At B w A2 (ints D)) (hM : D.length = M) (hM2 : M ≤ 100000) (i : Nat) (hi : i < M) :
    Calls Try.prog 37 #[.int .i64 i, .pointer (some ⟨q, 0, none⟩)] w fun e w' => e = .returned (.int .i64 (D.getD i 0)) ∧ w = w' := by
  have k0 : w.cell? ⟨q, 0, none⟩ = some (.slice A2 M c2) := by have := blk_cell hq 0; simpa using this
  obtain ⟨g, o, rfl, _, c0⟩ := hA2.int (k := i) (by omega)
  rw [show D[i]'(by omega) = D.getD i 0 by simp [List.getD, show i < D.length by omega]] at c0
  have hii : (i : Int) < (M : Int) := by omega
  generalize D.getD i 0 = d at *
  clear hA2 hq
  go_enter Try.func37, Try.ntmps37
  go_wp2
  go_ret
  exact ⟨rfl, rfl⟩
set_option maxRecDepth 100000 in
set_option maxHeartbeats 1000000 in
theorem need_anyH (q : Nat) (A2 : Option Addr) (c2 M B : Nat) (D : List Int) (w : World) (hq : w.heap[q]? = some (.cells #[.slice A2 M c2] 23 (0, 0))) (hA2 : At B w A2 (ints D)) (hM : D.length = M) (hM2 : M ≤ 100000) (i : Nat) (hi : i < M) :
    Calls Try.prog 42 #[.int .i64 i, .pointer (some ⟨q, 0, none⟩)] w fun e w' => e = .returned (.int .i64 (D.getD i 0)) ∧ w = w' := by
  have k0 : w.cell? ⟨q, 0, none⟩ = some (.slice A2 M c2) := by have := blk_cell hq 0; simpa using this
  obtain ⟨g, o, rfl, _, c0⟩ := hA2.int (k := i) (by omega)
  rw [show D[i]'(by omega) = D.getD i 0 by simp [List.getD, show i < D.length by omega]] at c0
  have hii : (i : Int) < (M : Int) := by omega
  generalize D.getD i 0 = d at *
  clear hA2 hq
  go_enter Try.func42, Try.ntmps42
  go_wp2
  go_ret
  exact ⟨rfl, rfl⟩
theorem enters_nW : Enters Try.prog 37 := enters_of Try.func37 (by kernel_rfl) rfl
theorem enters_nH : Enters Try.prog 42 := enters_of Try.func42 (by kernel_rfl) rfl

theorem wid_ok {S D : List Int} {col gap : Int} (h : askE [numE 64 S, numE 16384 D, num1 64 col, num1 16384 gap] = 0) (hl : S.length = D.length) : WidOk (max col 1).toNat S D gap S.length ∧ max col 1 = ((max col 1).toNat : Int) ∧ S.length ≤ 1024 := by
  have h1 := numE_ok (ask_ok h (numE 64 S) (by simp))
  have h2 := numE_ok (ask_ok h (numE 16384 D) (by simp))
  have h3 := num1_ok (ask_ok h (num1 64 col) (by simp))
  have h4 := num1_ok (ask_ok h (num1 16384 gap) (by simp))
  refine ⟨⟨by omega, by omega, h1.1, h4, fun i hi => ?_⟩, by omega, h1.1⟩
  have : D.getD i 0 = D[i]'(by omega) := by simp [List.getD, show i < D.length by omega]
  rw [this]
  exact h2.2 _ (List.getElem_mem _)
theorem hgt_ok {S D : List Int} {col : Int} (h : askE [numE 64 S, numE 16384 D, num1 64 col] = 0) (hl : S.length = D.length) : S.length ≤ 1024 ∧ (0 ≤ col ∧ col ≤ 64) ∧ ∀ i, i < S.length → 0 ≤ D.getD i 0 ∧ D.getD i 0 ≤ 16384 := by
  have h1 := numE_ok (ask_ok h (numE 64 S) (by simp))
  have h2 := numE_ok (ask_ok h (numE 16384 D) (by simp))
  have h3 := num1_ok (ask_ok h (num1 64 col) (by simp))
  refine ⟨h1.1, h3, fun i hi => ?_⟩
  have : D.getD i 0 = D[i]'(by omega) := by simp [List.getD, show i < D.length by omega]
  rw [this]
  exact h2.2 _ (List.getElem_mem _)
end Go.Proofs.Ytjippgflempdmaa

/- Layer 11: Widths and Heights, the program's. Printed by gen_ask.py. -/
namespace Go.Proofs.Ytjippgflempdmaa
set_option linter.unusedVariables false
set_option linter.unusedSimpArgs false
set_option maxRecDepth 100000
open Go.RowKit
attribute [local go_sem] max_fold min_fold
theorem alloc_get (w : World) (o : Obj) (h : w.heap.size < (w.alloc o).heap.size) : (w.alloc o).heap[w.heap.size]'h = o := by
  have := alloc_at w o
  rw [Array.getElem?_eq_getElem h] at this
  exact Option.some.inj this

set_option maxRecDepth 100000 in
set_option maxHeartbeats 4000000 in
theorem Widths_any (B : Nat) (A A2 : Option Addr) (c c2 : Nat) (S D : List Int) (col gap : Int) (w : World) (hA : At B w A (ints S)) (hA2 : At B w A2 (ints D)) (hB : B ≤ w.heap.size) (hl : S.length ≤ 9000000000000000000) (hl2 : D.length ≤ 9000000000000000000) :
    Calls Try.prog 10 #[.slice A S.length c, .slice A2 D.length c2, .int .i64 col, .int .i64 gap] w (IntsE (widR S D col gap) (widE S D col gap) w) := by
  obtain ⟨E, hE⟩ : ∃ E, askE [numE 64 S, numE 16384 D, num1 64 col, num1 16384 gap] = E := ⟨_, rfl⟩
  have hwe : widE S D col gap = if E = 0 then (if S.length = D.length then 0 else 110) else E := by rw [← hE]; rfl
  have hwr : E = 0 → S.length = D.length → widR S D col gap = widL (max col 1).toNat S D gap S.length := fun h1 h2 => by
    unfold widR
    rw [if_pos (by rw [hwe, if_pos h1, if_pos h2])]
  have hwn : widE S D col gap ≠ 0 → widR S D col gap = [] := fun h => by
    unfold widR
    rw [if_neg h]
  have HOK : Hid (E = 0 → S.length = D.length → WidOk (max col 1).toNat S D gap S.length ∧ max col 1 = ((max col 1).toNat : Int) ∧ S.length ≤ 1024) := Go.Lib.hid fun h1 h2 => wid_ok (hE.trans h1) h2
  obtain ⟨N, hN⟩ : ∃ N, S.length = N := ⟨_, rfl⟩
  obtain ⟨M, hM⟩ : ∃ M, D.length = M := ⟨_, rfl⟩
  have HNN := Go.Lib.hid hN
  have HMM := Go.Lib.hid hM
  rw [hN, hM] at hwe
  rw [hN] at hl
  rw [hM] at hl2
  have HROWS : Hid (E = 0 → N = M → ∀ w', At B w' A (ints S) → B ≤ w'.heap.size → Calls Try.prog 34 #[.slice A N c, .int .i64 col] w' (RowsPost (max col 1) S w')) := Go.Lib.hid fun h1 h2 w' h3 h4 => by
    have h5 := HOK.out h1 (by omega)
    have := rows_any B A c S col (max col 1) w' h3 h4 (by exact h5.2.2) rfl (by have := h5.1.m2; omega)
    rw [hN] at this
    exact this
  rw [hN, hM]
  have HS : Hid (∀ w', At B w' A (ints S) → Calls Try.prog 32 #[.int .i64 64, .slice A N c] w' fun e w'' => e = .returned (.int .i64 (numE 64 S)) ∧ w' = w'') := Go.Lib.hid fun w' h => by
    have := numbers_any B A c 64 S w' h (by omega)
    rwa [hN] at this
  have HD : Hid (∀ w', At B w' A2 (ints D) → Calls Try.prog 32 #[.int .i64 16384, .slice A2 M c2] w' fun e w'' => e = .returned (.int .i64 (numE 16384 D)) ∧ w' = w'') := Go.Lib.hid fun w' h => by
    have := numbers_any B A2 c2 16384 D w' h (by omega)
    rwa [hM] at this
  have HWE := Go.Lib.hid hwe
  have HWR := Go.Lib.hid hwr
  have HWN := Go.Lib.hid hwn
  have HEE := Go.Lib.hid hE
  clear hwe hwr hwn hN hM hE
  generalize numE 64 S = e1 at *
  generalize numE 16384 D = e2 at *
  generalize he3 : num1 64 col = e3 at *
  generalize he4 : num1 16384 gap = e4 at *
  have HE3 := Go.Lib.hid he3
  have HE4 := Go.Lib.hid he4
  clear he3 he4
  go_enter Try.func10, Try.ntmps10
  go_wp2
  have hbx := alloc_at w (.cells #[.slice A2 M c2] 23)
  have hbw : Below w.heap.size w (w.alloc (.cells #[.slice A2 M c2] 23)) := (Below.refl _ _).alloc (Nat.le_refl _) _
  have hA1 := hA.below (hbw.mono hB)
  have hA21 := hA2.below (hbw.mono hB)
  generalize World.alloc w _ = W at *
  have hB1 : B ≤ W.heap.size := by have := hbw.size; omega
  obtain ⟨q, hq⟩ : ∃ q, w.heap.size = q := ⟨_, rfl⟩
  rw [hq] at hbx ⊢
  have kq : W.cell? ⟨q, 0, none⟩ = some (.slice A2 M c2) := by have := blk_cell hbx 0; simpa using this
  have lq : q < W.heap.size := World.block_lt_of_cell? _ _ kq
  have HA1 := Go.Lib.hid hA1
  have HA21 := Go.Lib.hid hA21
  clear hA hA2 hA1 hA21 hq
  refine region_mono 12 [[], [0], [], [2], [], [4], [5], [], [7], [8], [1, 3, 6, 9], [10]] (pick [IsV (.slice A N c), IsV (.int .i64 e1), IsV (.slice A2 M c2), IsV (.int .i64 e2), IsV (.int .i64 col), BlkV #[.int .i64 col] 3 1, IsV (.int .i64 e3), IsV (.int .i64 gap), BlkV #[.int .i64 gap] 3 1, IsV (.int .i64 e4), BlkV #[.int .i64 e1, .int .i64 e2, .int .i64 e3, .int .i64 e4] 25 4, IsV (.int .i64 E)]) mixed (by kernel_rfl) (pick_stable ?_) ?_ ?_
  · simp [IsV.stable, BlkV.stable]
  · simp only [List.take_succ_cons, List.take_zero, MonoObs, DepAll, dsOf, List.map_cons, List.map_nil]
    refine ⟨?_, ?_, ?_, ?_, ?_, ?_, ?_, ?_, ?_, ?_, ?_, ?_, trivial⟩
    all_goals simp [go_sem, upon1, pick, IsV, BlkV]
    all_goals first
      | exact fun w1 _ => Below.refl _ _
      | with_reducible exact fun w1 hw => same_up (HS.out w1 (HA1.out.below (hw.mono hB1)))
      | with_reducible exact fun w1 hw => same_up (HD.out w1 (HA21.out.below (hw.mono hB1)))
      | exact fun w1 hw => ⟨alloc_get _ _ _, (Below.refl _ _).alloc (Nat.le_refl _) _⟩
      | (intro w1 hw; rw [(bcell hw).1 _ _ lq, kq]; simp [go_sem, Result.andThen]; exact Below.refl _ _)
      | (rintro w1 hw v g rfl hg; have := numbers_at g 64 col w1 hg rfl; rw [HE3.out] at this; exact same_up this)
      | (rintro w1 hw v g rfl hg; have := numbers_at g 16384 gap w1 hg rfl; rw [HE4.out] at this; exact same_up this)
      | (rintro w1 hw v g rfl hg; have := asked_at g [e1, e2, e3, e4] 4 w1 hg rfl rfl (by omega); rw [HEE.out] at this; exact same_up this)
  · intro w1 hb1
    simp only [show List.range 12 = [0, 1, 2, 3, 4, 5, 6, 7, 8, 9, 10, 11] from rfl, DepAll, dsOf, List.map_cons, List.map_nil, List.take_succ_cons, List.take_zero]
    rintro _ rfl _ rfl _ rfl _ rfl _ rfl v5 ⟨g5, rfl, hg5⟩ _ rfl _ rfl v8 ⟨g8, rfl, hg8⟩ _ rfl v10 ⟨g10, rfl, hg10⟩ _ rfl
    clear hg5 hg8 hg10
    have hbw1 := hbw.trans (hb1.mono hbw.size)
    have hx1 := (hb1.block _ lq).trans hbx
    have hs1 := hb1.size
    clear kq lq hbx HS HD
    by_cases h0 : E = 0
    · by_cases hlen : N = M
      · have hE0 := HWE.out
        rw [if_pos h0, if_pos hlen] at hE0
        have HEND := Go.Lib.hid (And.intro (HWR.out h0 (by rw [HNN.out, HMM.out]; exact hlen)) hE0)
        have HOK1 := Go.Lib.hid (HOK.out h0 (by rw [HNN.out, HMM.out]; exact hlen))
        have HRW := Go.Lib.hid (HROWS.out h0 hlen)
        have hM : M ≤ 1024 := by have h5 := HOK1.out; have h6 := HNN.out; omega
        have kq1 : w1.cell? ⟨q, 0, none⟩ = some (.slice A2 M c2) := by have := blk_cell hx1 0; simpa using this
        subst h0
        subst hlen
        clear hE0 HWE HWR HWN HEE HOK HROWS
        simp only [List.getD_cons_succ, List.getD_cons_zero, List.drop_succ_cons, List.drop_zero]
        go_wp2_with fail
        refine (HRW.out _ (HA1.out.below (hb1.mono hB1)) (Nat.le_trans hB1 hs1)).mono ?_
        rintro e w2 ⟨A3, c3, Z, rfl, hrec, hmem, hb2⟩
        have hx2 := (hb2.block _ (blk_lt2 hx1)).trans hx1
        have hrows := (RowsIn.of hmem).at
        have hA22 : At B w2 A2 (ints D) := (HA21.out.below (hb1.mono hB1)).below (hb2.mono (Nat.le_trans hB1 hs1))
        have hbw2 := hbw1.trans (hb2.mono hbw1.size)
        have hneed : ∀ i, i < N → ∀ V, Below w2.heap.size w2 V → Calls Try.prog 37 (#[.int .i64 i] ++ #[.pointer (some ⟨q, 0, none⟩)]) V fun e w' => e = .returned (.int .i64 (D.getD i 0)) ∧ Below V.heap.size V w' := fun i hi V hV =>
          (need_any9 q A2 c2 N B D V ((hV.block _ (blk_lt2 hx2)).trans hx2) (hA22.below (hV.mono (Nat.le_trans hB1 (Nat.le_trans hs1 hb2.size)))) HMM.out (by omega) i hi).mono fun _ _ ⟨he, hw⟩ => ⟨he, hw ▸ Below.refl _ _⟩
        have HCALL : Hid (Calls Try.prog 36 #[.slice A3 Z.length c3, .func (.func 37) #[] #[.pointer (some ⟨q, 0, none⟩)], .int .i64 col, .int .i64 gap] w2 (IntsPost (widL (max col 1).toNat S D gap S.length) w2)) := Go.Lib.hid (by
          have h5 := HOK1.out
          have hNN := HNN.out
          rw [hNN] at h5 ⊢
          rw [hNN] at hrec
          rw [h5.2.1] at hrec hrows
          exact widths_any 37 _ (fun a w => enters_nW a w) (max col 1).toNat S D col gap N h5.1 h5.2.1 A3 c3 Z hrec w2 hrows hneed)
        clear hrec hmem hrows hneed hx2 hA22 HRW HOK1 kq1 hb2 hb1
        go_wp2_with fail
        refine HCALL.out.mono ?_
        rintro e w3 ⟨A4, c4, rfl, hown3, hb3⟩
        generalize widL (max col 1).toNat S D gap S.length = Wd at *
        have HO3 := Go.Lib.hid hown3
        have hbw3 := hbw2.trans (hb3.mono hbw2.size)
        clear hown3 HCALL
        go_wp2
        go_ret2
        rw [HEND.out.1, HEND.out.2]
        exact IntsE.mk HO3.out hbw2.size hbw3
      · have hE0 := HWE.out
        rw [if_pos h0, if_neg hlen] at hE0
        have hW0 := HWN.out (by rw [hE0]; decide)
        have HEND := Go.Lib.hid (And.intro hW0 hE0)
        have kq1 : w1.cell? ⟨q, 0, none⟩ = some (.slice A2 M c2) := by have := blk_cell hx1 0; simpa using this
        have hne : ((N : Int) != (M : Int)) = true := by simp only [bne_iff_ne, ne_eq]; omega
        have hne2 : ¬ ((N : Int) = (M : Int)) := by omega
        subst h0
        clear hE0 hW0 HWE HWR HWN HEE HOK HROWS
        simp only [List.getD_cons_succ, List.getD_cons_zero, List.drop_succ_cons, List.drop_zero]
        go_wp2
        go_ret2
        rw [HEND.out.1, HEND.out.2]
        exact IntsE.none hbw1
    · have hE0 := HWE.out
      rw [if_neg h0] at hE0
      have hW0 := HWN.out (by rw [hE0]; exact h0)
      have HEND := Go.Lib.hid (And.intro hW0 hE0)
      have hne : (E != 0) = true := by simpa using h0
      clear hE0 hW0 HWE HWR HWN HEE HOK HROWS
      simp only [List.getD_cons_succ, List.getD_cons_zero, List.drop_succ_cons, List.drop_zero]
      go_wp2
      go_ret2
      rw [HEND.out.1, HEND.out.2]
      exact IntsE.none hbw1

set_option maxRecDepth 100000 in
set_option maxHeartbeats 4000000 in
theorem Heights_any (B : Nat) (A A2 : Option Addr) (c c2 : Nat) (S D : List Int) (col : Int) (w : World) (hA : At B w A (ints S)) (hA2 : At B w A2 (ints D)) (hB : B ≤ w.heap.size) (hl : S.length ≤ 9000000000000000000) (hl2 : D.length ≤ 9000000000000000000) :
    Calls Try.prog 12 #[.slice A S.length c, .slice A2 D.length c2, .int .i64 col] w (IntsE (hgtR S D col) (hgtE S D col) w) := by
  obtain ⟨E, hE⟩ : ∃ E, askE [numE 64 S, numE 16384 D, num1 64 col] = E := ⟨_, rfl⟩
  have hwe : hgtE S D col = if E = 0 then (if S.length = D.length then 0 else 110) else E := by rw [← hE]; rfl
  have hwr : E = 0 → S.length = D.length → hgtR S D col = hgtL (max col 1) S D S.length := fun h1 h2 => by
    unfold hgtR
    rw [if_pos (by rw [hwe, if_pos h1, if_pos h2])]
  have hwn : hgtE S D col ≠ 0 → hgtR S D col = [] := fun h => by
    unfold hgtR
    rw [if_neg h]
  have HOK : Hid (E = 0 → S.length = D.length → S.length ≤ 1024 ∧ (0 ≤ col ∧ col ≤ 64) ∧ ∀ i, i < S.length → 0 ≤ D.getD i 0 ∧ D.getD i 0 ≤ 16384) := Go.Lib.hid fun h1 h2 => hgt_ok (hE.trans h1) h2
  obtain ⟨N, hN⟩ : ∃ N, S.length = N := ⟨_, rfl⟩
  obtain ⟨M, hM⟩ : ∃ M, D.length = M := ⟨_, rfl⟩
  have HNN := Go.Lib.hid hN
  have HMM := Go.Lib.hid hM
  rw [hN, hM] at hwe
  rw [hN] at hl
  rw [hM] at hl2
  have HROWS : Hid (E = 0 → N = M → ∀ w', At B w' A (ints S) → B ≤ w'.heap.size → Calls Try.prog 34 #[.slice A N c, .int .i64 col] w' (RowsPost (max col 1) S w')) := Go.Lib.hid fun h1 h2 w' h3 h4 => by
    have h5 := HOK.out h1 (by omega)
    have := rows_any B A c S col (max col 1) w' h3 h4 (by exact h5.1) rfl (by omega)
    rw [hN] at this
    exact this
  rw [hN, hM]
  have HS : Hid (∀ w', At B w' A (ints S) → Calls Try.prog 32 #[.int .i64 64, .slice A N c] w' fun e w'' => e = .returned (.int .i64 (numE 64 S)) ∧ w' = w'') := Go.Lib.hid fun w' h => by
    have := numbers_any B A c 64 S w' h (by omega)
    rwa [hN] at this
  have HD : Hid (∀ w', At B w' A2 (ints D) → Calls Try.prog 32 #[.int .i64 16384, .slice A2 M c2] w' fun e w'' => e = .returned (.int .i64 (numE 16384 D)) ∧ w' = w'') := Go.Lib.hid fun w' h => by
    have := numbers_any B A2 c2 16384 D w' h (by omega)
    rwa [hM] at this
  have HWE := Go.Lib.hid hwe
  have HWR := Go.Lib.hid hwr
  have HWN := Go.Lib.hid hwn
  have HEE := Go.Lib.hid hE
  clear hwe hwr hwn hN hM hE
  generalize numE 64 S = e1 at *
  generalize numE 16384 D = e2 at *
  generalize he3 : num1 64 col = e3 at *
  skip
  have HE3 := Go.Lib.hid he3
  skip
  clear he3
  go_enter Try.func12, Try.ntmps12
  go_wp2
  have hbx := alloc_at w (.cells #[.slice A2 M c2] 23)
  have hbw : Below w.heap.size w (w.alloc (.cells #[.slice A2 M c2] 23)) := (Below.refl _ _).alloc (Nat.le_refl _) _
  have hA1 := hA.below (hbw.mono hB)
  have hA21 := hA2.below (hbw.mono hB)
  generalize World.alloc w _ = W at *
  have hB1 : B ≤ W.heap.size := by have := hbw.size; omega
  obtain ⟨q, hq⟩ : ∃ q, w.heap.size = q := ⟨_, rfl⟩
  rw [hq] at hbx ⊢
  have kq : W.cell? ⟨q, 0, none⟩ = some (.slice A2 M c2) := by have := blk_cell hbx 0; simpa using this
  have lq : q < W.heap.size := World.block_lt_of_cell? _ _ kq
  have HA1 := Go.Lib.hid hA1
  have HA21 := Go.Lib.hid hA21
  clear hA hA2 hA1 hA21 hq
  refine region_mono 9 [[], [0], [], [2], [], [4], [5], [1, 3, 6], [7]] (pick [IsV (.slice A N c), IsV (.int .i64 e1), IsV (.slice A2 M c2), IsV (.int .i64 e2), IsV (.int .i64 col), BlkV #[.int .i64 col] 3 1, IsV (.int .i64 e3), BlkV #[.int .i64 e1, .int .i64 e2, .int .i64 e3] 25 3, IsV (.int .i64 E)]) mixed (by kernel_rfl) (pick_stable ?_) ?_ ?_
  · simp [IsV.stable, BlkV.stable]
  · simp only [List.take_succ_cons, List.take_zero, MonoObs, DepAll, dsOf, List.map_cons, List.map_nil]
    refine ⟨?_, ?_, ?_, ?_, ?_, ?_, ?_, ?_, ?_, trivial⟩
    all_goals simp [go_sem, upon1, pick, IsV, BlkV]
    all_goals first
      | exact fun w1 _ => Below.refl _ _
      | with_reducible exact fun w1 hw => same_up (HS.out w1 (HA1.out.below (hw.mono hB1)))
      | with_reducible exact fun w1 hw => same_up (HD.out w1 (HA21.out.below (hw.mono hB1)))
      | exact fun w1 hw => ⟨alloc_get _ _ _, (Below.refl _ _).alloc (Nat.le_refl _) _⟩
      | (intro w1 hw; rw [(bcell hw).1 _ _ lq, kq]; simp [go_sem, Result.andThen]; exact Below.refl _ _)
      | (rintro w1 hw v g rfl hg; have := numbers_at g 64 col w1 hg rfl; rw [HE3.out] at this; exact same_up this)
      | (rintro w1 hw v g rfl hg; have := asked_at g [e1, e2, e3] 3 w1 hg rfl rfl (by omega); rw [HEE.out] at this; exact same_up this)
  · intro w1 hb1
    simp only [show List.range 9 = [0, 1, 2, 3, 4, 5, 6, 7, 8] from rfl, DepAll, dsOf, List.map_cons, List.map_nil, List.take_succ_cons, List.take_zero]
    rintro _ rfl _ rfl _ rfl _ rfl _ rfl v5 ⟨g5, rfl, hg5⟩ _ rfl v7 ⟨g7, rfl, hg7⟩ _ rfl
    clear hg5 hg7
    have hbw1 := hbw.trans (hb1.mono hbw.size)
    have hx1 := (hb1.block _ lq).trans hbx
    have hs1 := hb1.size
    clear kq lq hbx HS HD
    by_cases h0 : E = 0
    · by_cases hlen : N = M
      · have hE0 := HWE.out
        rw [if_pos h0, if_pos hlen] at hE0
        have HEND := Go.Lib.hid (And.intro (HWR.out h0 (by rw [HNN.out, HMM.out]; exact hlen)) hE0)
        have HOK1 := Go.Lib.hid (HOK.out h0 (by rw [HNN.out, HMM.out]; exact hlen))
        have HRW := Go.Lib.hid (HROWS.out h0 hlen)
        have hM : M ≤ 1024 := by have h5 := HOK1.out; have h6 := HNN.out; omega
        have kq1 : w1.cell? ⟨q, 0, none⟩ = some (.slice A2 M c2) := by have := blk_cell hx1 0; simpa using this
        subst h0
        subst hlen
        clear hE0 HWE HWR HWN HEE HOK HROWS
        simp only [List.getD_cons_succ, List.getD_cons_zero, List.drop_succ_cons, List.drop_zero]
        go_wp2_with fail
        refine (HRW.out _ (HA1.out.below (hb1.mono hB1)) (Nat.le_trans hB1 hs1)).mono ?_
        rintro e w2 ⟨A3, c3, Z, rfl, hrec, hmem, hb2⟩
        have hx2 := (hb2.block _ (blk_lt2 hx1)).trans hx1
        have hrows := (RowsIn.of hmem).at
        have hA22 : At B w2 A2 (ints D) := (HA21.out.below (hb1.mono hB1)).below (hb2.mono (Nat.le_trans hB1 hs1))
        have hbw2 := hbw1.trans (hb2.mono hbw1.size)
        have hneed : ∀ i, i < N → ∀ V, Below w2.heap.size w2 V → Calls Try.prog 42 (#[.int .i64 i] ++ #[.pointer (some ⟨q, 0, none⟩)]) V fun e w' => e = .returned (.int .i64 (D.getD i 0)) ∧ Below V.heap.size V w' := fun i hi V hV =>
          (need_anyH q A2 c2 N B D V ((hV.block _ (blk_lt2 hx2)).trans hx2) (hA22.below (hV.mono (Nat.le_trans hB1 (Nat.le_trans hs1 hb2.size)))) HMM.out (by omega) i hi).mono fun _ _ ⟨he, hw⟩ => ⟨he, hw ▸ Below.refl _ _⟩
        have HCALL : Hid (Calls Try.prog 41 #[.slice A3 Z.length c3, .func (.func 42) #[] #[.pointer (some ⟨q, 0, none⟩)]] w2 (IntsPost (hgtL (max col 1) S D S.length) w2)) := Go.Lib.hid (by
          have h5 := HOK1.out
          have hNN := HNN.out
          rw [hNN] at h5 ⊢
          rw [hNN] at hrec
          exact heights_any 42 _ (fun a w => enters_nH a w) (max col 1) (by omega) S D N h5.1 h5.2.2 A3 c3 Z hrec w2 hrows hneed)
        clear hrec hmem hrows hneed hx2 hA22 HRW HOK1 kq1 hb2 hb1
        go_wp2_with fail
        refine HCALL.out.mono ?_
        rintro e w3 ⟨A4, c4, rfl, hown3, hb3⟩
        generalize hgtL (max col 1) S D S.length = Wd at *
        have HO3 := Go.Lib.hid hown3
        have hbw3 := hbw2.trans (hb3.mono hbw2.size)
        clear hown3 HCALL
        go_wp2
        go_ret2
        rw [HEND.out.1, HEND.out.2]
        exact IntsE.mk HO3.out hbw2.size hbw3
      · have hE0 := HWE.out
        rw [if_pos h0, if_neg hlen] at hE0
        have hW0 := HWN.out (by rw [hE0]; decide)
        have HEND := Go.Lib.hid (And.intro hW0 hE0)
        have kq1 : w1.cell? ⟨q, 0, none⟩ = some (.slice A2 M c2) := by have := blk_cell hx1 0; simpa using this
        have hne : ((N : Int) != (M : Int)) = true := by simp only [bne_iff_ne, ne_eq]; omega
        have hne2 : ¬ ((N : Int) = (M : Int)) := by omega
        subst h0
        clear hE0 hW0 HWE HWR HWN HEE HOK HROWS
        simp only [List.getD_cons_succ, List.getD_cons_zero, List.drop_succ_cons, List.drop_zero]
        go_wp2
        go_ret2
        rw [HEND.out.1, HEND.out.2]
        exact IntsE.none hbw1
    · have hE0 := HWE.out
      rw [if_neg h0] at hE0
      have hW0 := HWN.out (by rw [hE0]; exact h0)
      have HEND := Go.Lib.hid (And.intro hW0 hE0)
      have hne : (E != 0) = true := by simpa using h0
      clear hE0 hW0 HWE HWR HWN HEE HOK HROWS
      simp only [List.getD_cons_succ, List.getD_cons_zero, List.drop_succ_cons, List.drop_zero]
      go_wp2
      go_ret2
      rw [HEND.out.1, HEND.out.2]
      exact IntsE.none hbw1
end Go.Proofs.Ytjippgflempdmaa

/- Layer 11: Widths and Heights, the document's. Printed by gen_askr.py. -/
namespace Go.Proofs.Ytjippgflempdmaa
set_option linter.unusedVariables false
set_option linter.unusedSimpArgs false
set_option maxRecDepth 100000
open Go.RowKit
attribute [local go_sem] max_fold min_fold

set_option maxRecDepth 100000 in
set_option maxHeartbeats 4000000 in
theorem rWidths_any (B : Nat) (A A2 : Option Addr) (c c2 : Nat) (S D : List Int) (col gap : Int) (w : World) (hA : At B w A (ints S)) (hA2 : At B w A2 (ints D)) (hB : B ≤ w.heap.size) (hl : S.length ≤ 9000000000000000000) (hl2 : D.length ≤ 9000000000000000000) :
    Calls Try.prog 17 #[.slice A S.length c, .slice A2 D.length c2, .int .i64 col, .int .i64 gap] w (IntsE (widR S D col gap) (widE S D col gap) w) := by
  obtain ⟨E, hE⟩ : ∃ E, askE [numE 64 S, numE 16384 D, num1 64 col, num1 16384 gap] = E := ⟨_, rfl⟩
  have hwe : widE S D col gap = if E = 0 then (if S.length = D.length then 0 else 110) else E := by rw [← hE]; rfl
  have hwr : E = 0 → S.length = D.length → widR S D col gap = widL (max col 1).toNat S D gap S.length := fun h1 h2 => by
    unfold widR
    rw [if_pos (by rw [hwe, if_pos h1, if_pos h2])]
  have hwn : widE S D col gap ≠ 0 → widR S D col gap = [] := fun h => by
    unfold widR
    rw [if_neg h]
  have HOK : Hid (E = 0 → S.length = D.length → WidOk (max col 1).toNat S D gap S.length ∧ max col 1 = ((max col 1).toNat : Int) ∧ S.length ≤ 1024) := Go.Lib.hid fun h1 h2 => wid_ok (hE.trans h1) h2
  have HCALL : Hid (E = 0 → S.length = D.length → ∀ w', At B w' A (ints S) → At B w' A2 (ints D) → B ≤ w'.heap.size → Calls Try.prog 49 #[.slice A S.length c, .slice A2 D.length c2, .int .i64 col, .int .i64 gap] w' (IntsPost (widL (max col 1).toNat S D gap S.length) w')) := Go.Lib.hid fun h1 h2 w' h3 h4 h6 => by
    have h5 := HOK.out h1 h2
    exact rwidths_any B A A2 c c2 (max col 1).toNat S D col gap w' h3 h4 h6 h5.1 h2.symm h5.2.1
  obtain ⟨N, hN⟩ : ∃ N, S.length = N := ⟨_, rfl⟩
  obtain ⟨M, hM⟩ : ∃ M, D.length = M := ⟨_, rfl⟩
  have HNN := Go.Lib.hid hN
  have HMM := Go.Lib.hid hM
  have HS : Hid (∀ w', At B w' A (ints S) → Calls Try.prog 46 #[.slice A N c, .int .i64 64] w' fun e w'' => e = .returned (.int .i64 (numE 64 S)) ∧ w' = w'') := Go.Lib.hid fun w' h => by
    have := reach_any B A c 64 S w' h (by omega)
    rwa [hN] at this
  have HD : Hid (∀ w', At B w' A2 (ints D) → Calls Try.prog 46 #[.slice A2 M c2, .int .i64 16384] w' fun e w'' => e = .returned (.int .i64 (numE 16384 D)) ∧ w' = w'') := Go.Lib.hid fun w' h => by
    have := reach_any B A2 c2 16384 D w' h (by omega)
    rwa [hM] at this
  rw [hN] at HCALL
  rw [hM] at HCALL
  rw [hN, hM] at hwe hwr
  rw [hN] at hl
  rw [hM] at hl2
  rw [hN, hM]
  have HWE := Go.Lib.hid hwe
  have HWR := Go.Lib.hid hwr
  have HWN := Go.Lib.hid hwn
  have HEE := Go.Lib.hid hE
  clear hwe hwr hwn hN hM hE HOK
  generalize numE 64 S = e1 at *
  generalize numE 16384 D = e2 at *
  generalize he3 : num1 64 col = e3 at *
  generalize he4 : num1 16384 gap = e4 at *
  have HE3 := Go.Lib.hid he3
  have HE4 := Go.Lib.hid he4
  clear he3 he4
  by_cases h0 : E = 0
  · by_cases hlen : N = M
    · have hE0 := HWE.out
      rw [if_pos h0, if_pos hlen] at hE0
      have HEND := Go.Lib.hid (And.intro (HWR.out h0 hlen) hE0)
      have HC := Go.Lib.hid (HCALL.out h0 hlen)
      subst hlen
      clear hE0 HWE HWR HWN HCALL
      go_enter Try.func17, Try.ntmps17
      go_wp2_with fail
      refine (HS.out _ hA).mono ?_
      rintro e w' ⟨rfl, rfl⟩
      go_wp2_with fail
      refine (HD.out _ hA2).mono ?_
      rintro e w' ⟨rfl, rfl⟩
      go_wp2_with fail
      refine (number_any col 64 _).mono ?_
      rintro e w' ⟨rfl, rfl⟩
      rw [HE3.out]
      go_wp2_with fail
      refine (number_any gap 16384 _).mono ?_
      rintro e w' ⟨rfl, rfl⟩
      rw [HE4.out]
      go_wp2_with fail
      refine (rfirst_at w.heap.size [e1, e2, e3, e4] 4 _ (alloc_at _ _) rfl rfl (by omega)).mono ?_
      rintro e w1 ⟨rfl, hw1⟩
      have hb1 : Below w.heap.size w w1 := hw1 ▸ (Below.refl _ _).alloc (Nat.le_refl _) _
      clear hw1
      rw [HEE.out]
      rw [h0]
      clear h0
      have hA1 := hA.below (hb1.mono hB)
      have hA21 := hA2.below (hb1.mono hB)
      have hs1 := hb1.size
      clear hA hA2
      go_wp2_with fail
      refine (HC.out _ hA1 hA21 (by omega)).mono ?_
      rintro e w3 ⟨A4, c4, rfl, hown3, hb3⟩
      generalize widL (max col 1).toNat S D gap S.length = Wd at *
      have HO3 := Go.Lib.hid hown3
      have hbw3 := hb1.trans (hb3.mono hs1)
      clear hown3 HC
      go_wp2
      go_ret2
      rw [HEND.out.1, HEND.out.2]
      exact IntsE.mk HO3.out hs1 hbw3
    · have hE0 := HWE.out
      rw [if_pos h0, if_neg hlen] at hE0
      have HEND := Go.Lib.hid (And.intro (HWN.out (by rw [hE0]; decide)) hE0)
      have hne : ((M : Int) != (N : Int)) = true := by simp only [bne_iff_ne, ne_eq]; omega
      have hne2 : ¬ ((M : Int) = (N : Int)) := by omega
      clear hE0 HWE HWR HWN HCALL
      go_enter Try.func17, Try.ntmps17
      go_wp2_with fail
      refine (HS.out _ hA).mono ?_
      rintro e w' ⟨rfl, rfl⟩
      go_wp2_with fail
      refine (HD.out _ hA2).mono ?_
      rintro e w' ⟨rfl, rfl⟩
      go_wp2_with fail
      refine (number_any col 64 _).mono ?_
      rintro e w' ⟨rfl, rfl⟩
      rw [HE3.out]
      go_wp2_with fail
      refine (number_any gap 16384 _).mono ?_
      rintro e w' ⟨rfl, rfl⟩
      rw [HE4.out]
      go_wp2_with fail
      refine (rfirst_at w.heap.size [e1, e2, e3, e4] 4 _ (alloc_at _ _) rfl rfl (by omega)).mono ?_
      rintro e w1 ⟨rfl, hw1⟩
      have hb1 : Below w.heap.size w w1 := hw1 ▸ (Below.refl _ _).alloc (Nat.le_refl _) _
      clear hw1
      rw [HEE.out]
      rw [h0]
      clear h0
      go_wp2
      go_ret2
      rw [HEND.out.1, HEND.out.2]
      exact IntsE.none hb1
  · have hE0 := HWE.out
    rw [if_neg h0] at hE0
    have HEND := Go.Lib.hid (And.intro (HWN.out (by rw [hE0]; exact h0)) hE0)
    have hne : (E != 0) = true := by simpa using h0
    clear hE0 HWE HWR HWN HCALL
    go_enter Try.func17, Try.ntmps17
    go_wp2_with fail
    refine (HS.out _ hA).mono ?_
    rintro e w' ⟨rfl, rfl⟩
    go_wp2_with fail
    refine (HD.out _ hA2).mono ?_
    rintro e w' ⟨rfl, rfl⟩
    go_wp2_with fail
    refine (number_any col 64 _).mono ?_
    rintro e w' ⟨rfl, rfl⟩
    rw [HE3.out]
    go_wp2_with fail
    refine (number_any gap 16384 _).mono ?_
    rintro e w' ⟨rfl, rfl⟩
    rw [HE4.out]
    go_wp2_with fail
    refine (rfirst_at w.heap.size [e1, e2, e3, e4] 4 _ (alloc_at _ _) rfl rfl (by omega)).mono ?_
    rintro e w1 ⟨rfl, hw1⟩
    have hb1 : Below w.heap.size w w1 := hw1 ▸ (Below.refl _ _).alloc (Nat.le_refl _) _
    clear hw1
    rw [HEE.out]
    go_wp2
    go_ret2
    rw [HEND.out.1, HEND.out.2]
    exact IntsE.none hb1

set_option maxRecDepth 100000 in
set_option maxHeartbeats 4000000 in
theorem rHeights_any (B : Nat) (A A2 : Option Addr) (c c2 : Nat) (S D : List Int) (col : Int) (w : World) (hA : At B w A (ints S)) (hA2 : At B w A2 (ints D)) (hB : B ≤ w.heap.size) (hl : S.length ≤ 9000000000000000000) (hl2 : D.length ≤ 9000000000000000000) :
    Calls Try.prog 18 #[.slice A S.length c, .slice A2 D.length c2, .int .i64 col] w (IntsE (hgtR S D col) (hgtE S D col) w) := by
  obtain ⟨E, hE⟩ : ∃ E, askE [numE 64 S, numE 16384 D, num1 64 col] = E := ⟨_, rfl⟩
  have hwe : hgtE S D col = if E = 0 then (if S.length = D.length then 0 else 110) else E := by rw [← hE]; rfl
  have hwr : E = 0 → S.length = D.length → hgtR S D col = hgtL (max col 1) S D S.length := fun h1 h2 => by
    unfold hgtR
    rw [if_pos (by rw [hwe, if_pos h1, if_pos h2])]
  have hwn : hgtE S D col ≠ 0 → hgtR S D col = [] := fun h => by
    unfold hgtR
    rw [if_neg h]
  have HOK : Hid (E = 0 → S.length = D.length → S.length ≤ 1024 ∧ (0 ≤ col ∧ col ≤ 64) ∧ ∀ i, i < S.length → 0 ≤ D.getD i 0 ∧ D.getD i 0 ≤ 16384) := Go.Lib.hid fun h1 h2 => hgt_ok (hE.trans h1) h2
  have HCALL : Hid (E = 0 → S.length = D.length → ∀ w', At B w' A (ints S) → At B w' A2 (ints D) → B ≤ w'.heap.size → Calls Try.prog 50 #[.slice A S.length c, .slice A2 D.length c2, .int .i64 col] w' (IntsPost (hgtL (max col 1) S D S.length) w')) := Go.Lib.hid fun h1 h2 w' h3 h4 h6 => by
    have h5 := HOK.out h1 h2
    exact rheights_any B A A2 c c2 (max col 1) S D col w' h3 h4 h6 h5.1 h2.symm h5.2.2 rfl (by omega)
  obtain ⟨N, hN⟩ : ∃ N, S.length = N := ⟨_, rfl⟩
  obtain ⟨M, hM⟩ : ∃ M, D.length = M := ⟨_, rfl⟩
  have HNN := Go.Lib.hid hN
  have HMM := Go.Lib.hid hM
  have HS : Hid (∀ w', At B w' A (ints S) → Calls Try.prog 46 #[.slice A N c, .int .i64 64] w' fun e w'' => e = .returned (.int .i64 (numE 64 S)) ∧ w' = w'') := Go.Lib.hid fun w' h => by
    have := reach_any B A c 64 S w' h (by omega)
    rwa [hN] at this
  have HD : Hid (∀ w', At B w' A2 (ints D) → Calls Try.prog 46 #[.slice A2 M c2, .int .i64 16384] w' fun e w'' => e = .returned (.int .i64 (numE 16384 D)) ∧ w' = w'') := Go.Lib.hid fun w' h => by
    have := reach_any B A2 c2 16384 D w' h (by omega)
    rwa [hM] at this
  rw [hN] at HCALL
  rw [hM] at HCALL
  rw [hN, hM] at hwe hwr
  rw [hN] at hl
  rw [hM] at hl2
  rw [hN, hM]
  have HWE := Go.Lib.hid hwe
  have HWR := Go.Lib.hid hwr
  have HWN := Go.Lib.hid hwn
  have HEE := Go.Lib.hid hE
  clear hwe hwr hwn hN hM hE HOK
  generalize numE 64 S = e1 at *
  generalize numE 16384 D = e2 at *
  generalize he3 : num1 64 col = e3 at *
  skip
  have HE3 := Go.Lib.hid he3
  skip
  clear he3
  by_cases h0 : E = 0
  · by_cases hlen : N = M
    · have hE0 := HWE.out
      rw [if_pos h0, if_pos hlen] at hE0
      have HEND := Go.Lib.hid (And.intro (HWR.out h0 hlen) hE0)
      have HC := Go.Lib.hid (HCALL.out h0 hlen)
      subst hlen
      clear hE0 HWE HWR HWN HCALL
      go_enter Try.func18, Try.ntmps18
      go_wp2_with fail
      refine (HS.out _ hA).mono ?_
      rintro e w' ⟨rfl, rfl⟩
      go_wp2_with fail
      refine (HD.out _ hA2).mono ?_
      rintro e w' ⟨rfl, rfl⟩
      go_wp2_with fail
      refine (number_any col 64 _).mono ?_
      rintro e w' ⟨rfl, rfl⟩
      rw [HE3.out]
      go_wp2_with fail
      refine (rfirst_at w.heap.size [e1, e2, e3] 3 _ (alloc_at _ _) rfl rfl (by omega)).mono ?_
      rintro e w1 ⟨rfl, hw1⟩
      have hb1 : Below w.heap.size w w1 := hw1 ▸ (Below.refl _ _).alloc (Nat.le_refl _) _
      clear hw1
      rw [HEE.out]
      rw [h0]
      clear h0
      have hA1 := hA.below (hb1.mono hB)
      have hA21 := hA2.below (hb1.mono hB)
      have hs1 := hb1.size
      clear hA hA2
      go_wp2_with fail
      refine (HC.out _ hA1 hA21 (by omega)).mono ?_
      rintro e w3 ⟨A4, c4, rfl, hown3, hb3⟩
      generalize hgtL (max col 1) S D S.length = Wd at *
      have HO3 := Go.Lib.hid hown3
      have hbw3 := hb1.trans (hb3.mono hs1)
      clear hown3 HC
      go_wp2
      go_ret2
      rw [HEND.out.1, HEND.out.2]
      exact IntsE.mk HO3.out hs1 hbw3
    · have hE0 := HWE.out
      rw [if_pos h0, if_neg hlen] at hE0
      have HEND := Go.Lib.hid (And.intro (HWN.out (by rw [hE0]; decide)) hE0)
      have hne : ((M : Int) != (N : Int)) = true := by simp only [bne_iff_ne, ne_eq]; omega
      have hne2 : ¬ ((M : Int) = (N : Int)) := by omega
      clear hE0 HWE HWR HWN HCALL
      go_enter Try.func18, Try.ntmps18
      go_wp2_with fail
      refine (HS.out _ hA).mono ?_
      rintro e w' ⟨rfl, rfl⟩
      go_wp2_with fail
      refine (HD.out _ hA2).mono ?_
      rintro e w' ⟨rfl, rfl⟩
      go_wp2_with fail
      refine (number_any col 64 _).mono ?_
      rintro e w' ⟨rfl, rfl⟩
      rw [HE3.out]
      go_wp2_with fail
      refine (rfirst_at w.heap.size [e1, e2, e3] 3 _ (alloc_at _ _) rfl rfl (by omega)).mono ?_
      rintro e w1 ⟨rfl, hw1⟩
      have hb1 : Below w.heap.size w w1 := hw1 ▸ (Below.refl _ _).alloc (Nat.le_refl _) _
      clear hw1
      rw [HEE.out]
      rw [h0]
      clear h0
      go_wp2
      go_ret2
      rw [HEND.out.1, HEND.out.2]
      exact IntsE.none hb1
  · have hE0 := HWE.out
    rw [if_neg h0] at hE0
    have HEND := Go.Lib.hid (And.intro (HWN.out (by rw [hE0]; exact h0)) hE0)
    have hne : (E != 0) = true := by simpa using h0
    clear hE0 HWE HWR HWN HCALL
    go_enter Try.func18, Try.ntmps18
    go_wp2_with fail
    refine (HS.out _ hA).mono ?_
    rintro e w' ⟨rfl, rfl⟩
    go_wp2_with fail
    refine (HD.out _ hA2).mono ?_
    rintro e w' ⟨rfl, rfl⟩
    go_wp2_with fail
    refine (number_any col 64 _).mono ?_
    rintro e w' ⟨rfl, rfl⟩
    rw [HE3.out]
    go_wp2_with fail
    refine (rfirst_at w.heap.size [e1, e2, e3] 3 _ (alloc_at _ _) rfl rfl (by omega)).mono ?_
    rintro e w1 ⟨rfl, hw1⟩
    have hb1 : Below w.heap.size w w1 := hw1 ▸ (Below.refl _ _).alloc (Nat.le_refl _) _
    clear hw1
    rw [HEE.out]
    go_wp2
    go_ret2
    rw [HEND.out.1, HEND.out.2]
    exact IntsE.none hb1
end Go.Proofs.Ytjippgflempdmaa
