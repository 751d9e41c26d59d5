/- Layer 8: row: a box with gaps in it. -/
import Derived.Test.YtnkojoajcdhngaaDoorTr41
import Derived.Test.YtnkojoajcdhngaaDoorTrQ
import Derived.Test.YtnkojoajcdhngaaDoorBasePiv
import Derived.Test.YtnkojoajcdhngaaDoorMonoA
import Derived.Deep.RegionHeld3
namespace Go.Proofs.YtnkojoajcdhngaaDoor
set_option linter.unusedVariables false
set_option linter.unusedSimpArgs false
set_option maxRecDepth 100000
open Go.RowKit Go.Shelf Go.Lib
attribute [local go_sem] Oper.semAt_some
set_option maxRecDepth 100000
set_option maxHeartbeats 16000000

def kidR (m : Nat) : List Int := (List.range m).map fun (j : Nat) => (j : Int) + 1
theorem kidR_len (m : Nat) : (kidR m).length = m := by simp [kidR]
theorem kidR_succ (m : Nat) : kidR (m + 1) = kidR m ++ [(m : Int) + 1] := by simp [kidR, List.range_succ]
def ndG : Nd := nd0 9 ⟨#[]⟩ []
def rowL (n : Nat) : List Nd := nd0 4 ⟨#[]⟩ (kidR n) :: List.replicate n ndG
theorem rowL_len (n : Nat) : (rowL n).length = n + 1 := by simp [rowL]
def rowT (a b : Nat) (vk : Value) : List Tri := (nd0 4 ⟨#[]⟩ (kidR a), .slice none 0 0, vk) :: List.replicate b (ndG, .slice none 0 0, .slice none 0 0)
theorem rowT_set (a b : Nat) (vk v : Value) : (cellsT (rowT a b vk)).set 18 v = cellsT (rowT (a + 1) b v) := by
  show (ndC _ _ _ ++ cellsT _).set 18 v = ndC _ _ _ ++ cellsT _
  rw [List.set_append_left _ _ (by rw [ndC_len]; omega)]
  rfl
theorem rowT_put (a b : Nat) (vk : Value) : cellsT (rowT a b vk) ++ ndC ndG (.slice none 0 0) (.slice none 0 0) = cellsT (rowT a (b + 1) vk) := by
  unfold rowT
  rw [List.replicate_succ', ← List.cons_append, cellsT_append]
  congr 1
theorem own_nebox {w : World} {b1 s1 n1 k : Nat} {e1 t : TypeId} {v1 : Value} {x1 : List Value} {cs : Array Value} {fr : Nat × Nat} (h1 : w.ownsRow b1 e1 s1 v1 n1 x1) (hk : w.heap[k]? = some (.cells cs t fr)) (he : e1 ≠ t) : v1.ownBlock ≠ some k := by
  intro e
  rcases h1.2 with ⟨rfl, _⟩ | ⟨g, cap, cur, rfl, _, hh, _⟩
  · cases e
  · injection e with e
    simp only at e
    subst e
    rw [hk] at hh
    injection hh with hh
    injection hh with _ h3
    exact he h3.symm
/-- Behind a kids and b gaps. -/
structure RwS (s0 : Nat) (w : World) (a b g c : Nat) (Ak : Option Addr) (ck : Nat) (W : World) : Prop where
  bl : Below s0 w W
  b0 : W.heap[s0]? = some (.cells #[.slice none 0 0] 25 (0, 0))
  b2 : W.heap[s0 + 2]? = some (.cells #[.slice (some ⟨g, 0, none⟩) (b + 1) c] 25 (0, 0))
  ro : W.ownsRow (s0 + 1) 39 19 (.slice (some ⟨g, 0, none⟩) (b + 1) c) (b + 1) (cellsT (rowT a b (.slice Ak a ck)))
  rk : W.ownsRow (s0 + 1) 3 1 (.slice Ak a ck) a (ints (kidR a))
theorem RwS.kid {s0 : Nat} {w : World} {a b g c : Nat} {Ak : Option Addr} {ck : Nat} {W w5 : World} {A7 : Option Addr} {c7 : Nat} (h : RwS s0 w a b g c Ak ck W) (hw : s0 ≤ w.heap.size)
    (ho : w5.ownsRow (s0 + 1) 3 1 (.slice A7 (a + 1) c7) (a + 1) (ints (kidR (a + 1)))) (hg : W.grownBy w5 (Value.slice Ak a ck).ownBlock) :
    RwS s0 w (a + 1) b g c A7 c7 (w5.setCell ⟨g, 18, none⟩ (.slice A7 (a + 1) c7)) ∧ w5.cell? ⟨s0 + 2, 0, none⟩ = some (.slice (some ⟨g, 0, none⟩) (b + 1) c) ∧ (w5.setCell ⟨g, 18, none⟩ (.slice A7 (a + 1) c7)).cell? ⟨s0 + 2, 0, none⟩ = some (.slice (some ⟨g, 0, none⟩) (b + 1) c) ∧ w5.cell? ⟨g, 18, none⟩ = some (.slice Ak a ck) ∧ w5.frozen? ⟨g, 18, none⟩ = false ∧ g < w5.heap.size := by
  have l0 := lt_of_block h.b0
  have l2 := lt_of_block h.b2
  have e0 : w5.heap[s0]? = _ := (hg.block s0 l0 (fun e => own_nebox h.rk h.b0 (by decide) e.symm)).trans h.b0
  have e2 : w5.heap[s0 + 2]? = _ := (hg.block (s0 + 2) l2 (fun e => own_nebox h.rk h.b2 (by decide) e.symm)).trans h.b2
  have ro5 := own_other h.ro h.rk (by decide) hg
  have lg := (ro5.lt g rfl).2
  have n0 : s0 ≠ g := fun e => own_nebox ro5 e0 (by decide) (by rw [e]; rfl)
  have n2 : s0 + 2 ≠ g := fun e => own_nebox ro5 e2 (by decide) (by rw [e]; rfl)
  have hb5 : Below s0 w w5 := h.bl.grown hg (by omega) (fun k hk => by have := own_ge h.rk k hk; omega)
  have e2' := store_off (i := 18) (u := .slice A7 (a + 1) c7) e2 n2
  have hge := own_ge ro5 g rfl
  refine ⟨⟨hb5.setCell (p := ⟨g, 18, none⟩) (by show s0 ≤ g; omega) _, store_off e0 n0, e2', ?_, own_off ho (fun e => own_ne ho ro5 (by decide) g e rfl)⟩, by rw [blk_cell e2]; rfl, by rw [blk_cell e2']; rfl, ?_, ro5.frozenAt 18, lg⟩
  · have := own_store ro5 18 (.slice A7 (a + 1) c7)
    rwa [rowT_set] at this
  · rw [ro5.cellAt 18 (by omega)]
    rfl
theorem RwS.node {s0 : Nat} {w : World} {a b g c : Nat} {Ak : Option Addr} {ck : Nat} {W w5 : World} {o : Obj} {v : Value} (h : RwS s0 w a b g c Ak ck W) (hw : s0 ≤ w.heap.size)
    (ho : w5.ownsRow (s0 + 1) 39 19 v (b + 1 + 1) (cellsT (rowT a (b + 1) (.slice Ak a ck)))) (hg : (W.alloc o).grownBy w5 (Value.slice (some ⟨g, 0, none⟩) (b + 1) c).ownBlock) :
    (∃ g' c', v = .slice (some ⟨g', 0, none⟩) (b + 1 + 1) c' ∧ RwS s0 w a (b + 1) g' c' Ak ck (w5.setCell ⟨s0 + 2, 0, none⟩ v)) ∧ w5.cell? ⟨s0 + 2, 0, none⟩ = some (.slice (some ⟨g, 0, none⟩) (b + 1) c) ∧ w5.frozen? ⟨s0 + 2, 0, none⟩ = false ∧ s0 + 2 < w5.heap.size := by
  have l0 := lt_of_block h.b0
  have l2 := lt_of_block h.b2
  have hA : Below W.heap.size W (W.alloc o) := (Below.refl _ _).alloc (Nat.le_refl _) o
  have e0 : w5.heap[s0]? = _ := (hg.block s0 (by simp; omega) (fun e => own_nebox h.ro h.b0 (by decide) e.symm)).trans ((hA.block s0 l0).trans h.b0)
  have e2 : w5.heap[s0 + 2]? = _ := (hg.block (s0 + 2) (by simp; omega) (fun e => own_nebox h.ro h.b2 (by decide) e.symm)).trans ((hA.block (s0 + 2) l2).trans h.b2)
  have rk5 := own_other (own_below' h.rk hA) (own_below' h.ro hA) (by decide) hg
  have hb5 : Below s0 w w5 := (h.bl.trans (hA.mono (by omega))).grown hg (by simp; omega) (fun k hk => by have := own_ge h.ro k hk; omega)
  have e2' := store_in (i := 0) (u := v) e2
  refine ⟨?_, by rw [blk_cell e2]; rfl, blk_frozen e2 0, lt_of_block e2⟩
  rcases ho.2 with ⟨_, h0⟩ | ⟨g', c', cur, rfl, _⟩
  · omega
  refine ⟨g', c', rfl, hb5.setCell (p := ⟨s0 + 2, 0, none⟩) (by show s0 ≤ s0 + 2; omega) _, store_off e0 (by omega), e2', own_off ho (own_nebox ho e2 (by decide)), own_off rk5 (own_nebox rk5 e2 (by decide))⟩
section
variable {o : Oper} {a : Act} {K : Act → World → Prop} {Q : Exit → Act → World → Prop} {w : World}
theorem wp_append_int (s x : Operand) (ho : o.op = .call { callee := .builtin .append, args := #[s, x], argTypes := #[37, 37] }) (base : Nat) (v : Value) (l : List Int) (n : Int) (g : Nat)
    (hs : a.eval s = v) (hx : a.eval x = .slice (some ⟨g, 0, none⟩) 1 1) (hown : w.ownsRow base 3 1 v l.length (ints l)) (h0 : w.cell? ⟨g, 0, none⟩ = some (.int .i64 n)) (hn : l.length ≤ 1000000) (hbase : base ≤ w.heap.size)
    (h : ∀ v' w', w'.ownsRow base 3 1 v' (l ++ [n]).length (ints (l ++ [n])) → w.grownBy w' v.ownBlock → (∀ k, v'.ownBlock = some k → v.ownBlock = some k ∨ w.heap.size ≤ k) → K (a.put o.dst v') w') : o.wp Tryd.prog a w K Q := by
  obtain ⟨i0, hi, hz0, hz1, hz2⟩ := info_parts info_int
  obtain ⟨v', w', hrun, r1, r2, r3⟩ := run_append_new (P := Tryd.prog) w base 37 o.type 3 i0 _ 1 8 Tryd.underlying37 hi hz0 hz1 hz2 rfl (by decide) v l.length (ints l) hown ⟨g, 0, none⟩ 1 1 (ints [n]) rfl (fun j u hj => by
    match j, hj with
    | 0, hj => simp [ints] at hj; subst hj; simpa [Addr.add] using h0
    | j + 1, hj => simp [ints] at hj) (ints_one _) (by unfold maxLen; omega) (by omega) hbase
  have hf := h v' w' (by rw [ints_append, List.length_append]; exact r1) r2 r3
  unfold Oper.wp
  simp [execOp, ho, resolve, invoke, builtin, hs, hx, hrun, Result.andThen]
  exact hf
theorem uponR_append_int {R : Value → World → Prop} (s x : Operand) (ho : o.op = .call { callee := .builtin .append, args := #[s, x], argTypes := #[37, 37] }) (base : Nat) (v : Value) (l : List Int) (n : Int) (g : Nat)
    (hs : a.eval s = v) (hx : a.eval x = .slice (some ⟨g, 0, none⟩) 1 1) (hown : w.ownsRow base 3 1 v l.length (ints l)) (h0 : w.cell? ⟨g, 0, none⟩ = some (.int .i64 n)) (hn : l.length ≤ 1000000) (hbase : base ≤ w.heap.size)
    (h : ∀ v' w', w'.ownsRow base 3 1 v' (l ++ [n]).length (ints (l ++ [n])) → w.grownBy w' v.ownBlock → (∀ k, v'.ownBlock = some k → v.ownBlock = some k ∨ w.heap.size ≤ k) → R v' w') : uponR Tryd.prog w R ((execOp a.eval o).run Tryd.prog w) := by
  obtain ⟨i0, hi, hz0, hz1, hz2⟩ := info_parts info_int
  obtain ⟨v', w', hrun, r1, r2, r3⟩ := run_append_new (P := Tryd.prog) w base 37 o.type 3 i0 _ 1 8 Tryd.underlying37 hi hz0 hz1 hz2 rfl (by decide) v l.length (ints l) hown ⟨g, 0, none⟩ 1 1 (ints [n]) rfl (fun j u hj => by
    match j, hj with
    | 0, hj => simp [ints] at hj; subst hj; simpa [Addr.add] using h0
    | j + 1, hj => simp [ints] at hj) (ints_one _) (by unfold maxLen; omega) (by omega) hbase
  have hf := h v' w' (by rw [ints_append, List.length_append]; exact r1) r2 r3
  simp [execOp, ho, resolve, invoke, builtin, hs, hx, hrun, Result.andThen, uponR]
  exact hf
end
theorem row_any (n : Nat) (hn : n ≤ 100000) (w : World) : Calls Tryd.prog 11 #[.int .i64 n] w (FormP w (rowL n)) := by
  obtain ⟨s0, hs⟩ : ∃ s0, w.heap.size = s0 := ⟨_, rfl⟩
  have HS := hid hs
  have hst := store_node
  go_enter Tryd.func11, Tryd.ntmps11
  go_upto_region 2 with fail
  obtain ⟨W, hW⟩ : ∃ W, ((w.alloc (.cells #[.slice none 0 0] 25)).alloc (.cells (ndC (nd0 4 ⟨#[]⟩ []) (.slice none 0 0) (.slice none 0 0)).toArray 39)).alloc (.cells #[.slice (some ⟨s0 + 1, 0, none⟩) 1 1] 25) = W := ⟨_, rfl⟩
  have h0 : RwS s0 w 0 0 (s0 + 1) 1 none 0 W := by
    have e1 : (w.alloc (.cells #[.slice none 0 0] 25)).heap.size = s0 + 1 := by simp [hs]
    have e2 : ((w.alloc (.cells #[.slice none 0 0] 25)).alloc (.cells (ndC (nd0 4 ⟨#[]⟩ []) (.slice none 0 0) (.slice none 0 0)).toArray 39)).heap.size = s0 + 2 := by simp [hs]
    have k0 := World.alloc_heap_new w (.cells #[.slice none 0 0] 25)
    have k1 := World.alloc_heap_new (w.alloc (.cells #[.slice none 0 0] 25)) (.cells (ndC (nd0 4 ⟨#[]⟩ []) (.slice none 0 0) (.slice none 0 0)).toArray 39)
    have k2 := World.alloc_heap_new ((w.alloc (.cells #[.slice none 0 0] 25)).alloc (.cells (ndC (nd0 4 ⟨#[]⟩ []) (.slice none 0 0) (.slice none 0 0)).toArray 39)) (.cells #[.slice (some ⟨s0 + 1, 0, none⟩) 1 1] 25)
    rw [hs] at k0
    rw [e1] at k1
    rw [e2, hW] at k2
    have q1 : W.heap[s0 + 1]? = some (.cells (ndC (nd0 4 ⟨#[]⟩ []) (.slice none 0 0) (.slice none 0 0)).toArray 39 (0, 0)) := by
      rw [← hW, Below.heap_alloc _ _ _ (by omega)]
      exact k1
    refine ⟨?_, ?_, k2, ⟨by simp [rowT, cellsT, ndC], .inr ⟨s0 + 1, 1, (ndC (nd0 4 ⟨#[]⟩ []) (.slice none 0 0) (.slice none 0 0)).toArray, rfl, Nat.le_refl _, q1, by omega, by decide, rfl, rfl⟩⟩, World.ownsRow_nil _ _ _ _⟩
    · rw [← hW, ← hs]
      exact (((Below.refl _ _).alloc (Nat.le_refl _) _).alloc (by simp) _).alloc (by simp; omega) _
    · rw [← hW, Below.heap_alloc _ _ _ (by omega), Below.heap_alloc _ _ _ (by omega)]
      exact k0
  have H0 := hid h0
  have hWW : ((w.alloc (.cells #[.slice none 0 0] 25)).alloc (.cells #[.int .u8 4, .string { data := #[] }, .string { data := #[] }, .string { data := #[] }, .int .i64 0, .int .i64 0, .int .i64 0, .int .i64 0, .int .i64 0, .int .i64 0, .bool false, .int .i64 0, .int .i64 0, .int .i64 0, .int .i64 0, .int .i64 0, .bool false, .slice none 0 0, .slice none 0 0] 39)).alloc (.cells #[.slice (some ⟨s0 + 1, 0, none⟩) 1 1] 25) = W := hW
  rw [hWW]
  clear hWW hW h0 hst hs
  go_wp2_with fail
  go_loopg [4] n (fun gh v4 wr => ∃ (m g c : Nat) (Ak : Option Addr) (ck : Nat), v4 = .int .i64 ((m : Int) + 1) ∧ m ≤ n ∧ n - m ≤ gh ∧ Hid (RwS s0 w m m g c Ak ck wr))
  case atStart => exact ⟨0, s0 + 1, 1, none, 0, rfl, by omega, by omega, H0⟩
  case round =>
    obtain ⟨m, g, c, Ak, ck, rfl, hm, hgh, HR⟩ := hrel
    have lsz := HR.out.bl.size
    have hSs := HS.out
    have k2 : wr.cell? ⟨s0 + 2, 0, none⟩ = some (.slice (some ⟨g, 0, none⟩) (m + 1) c) := by rw [blk_cell HR.out.b2]; rfl
    by_cases hlt : m < n
    · have hli : (m : Int) + 1 ≤ (n : Int) := by omega
      have hkk : wr.cell? ⟨g, 18, none⟩ = some (.slice Ak m ck) := by
        rw [HR.out.ro.cellAt 18 (by omega)]
        rfl
      have hi0 : (0 : Int) ≤ 0 := by omega
      have hi1 : (0 : Int) < (m : Int) + 1 := by omega
      go_upto_region 5 with fail
      obtain ⟨row, hrow⟩ : ∃ row, (Value.slice Ak m ck).ownBlock = row := ⟨_, rfl⟩
      have hrl : ∀ k, row = some k → k < wr.heap.size := fun k e => (HR.out.rk.lt _ (hrow.trans e)).2
      have hrb : row ≠ some (s0 + 2) := fun e => own_nebox HR.out.rk HR.out.b2 (by decide) (hrow.trans e)
      have hrg : row ≠ some g := fun e => own_ne HR.out.rk HR.out.ro (by decide) g (hrow.trans e) rfl
      have HE1 : Hid (∀ w8, wr.grownBy w8 row → w8.cell? ⟨s0 + 2, 0, none⟩ = some (.slice (some ⟨g, 0, none⟩) (m + 1) c)) := hid fun w8 h => (World.cell?_of_block (h.block (s0 + 2) (lt_of_block HR.out.b2) (fun e => hrb e.symm))).trans k2
      have HE2 : Hid (∀ w8, wr.grownBy w8 row → w8.cell? ⟨g, 18, none⟩ = some (.slice Ak m ck)) := hid fun w8 h => (World.cell?_of_block (h.block g (HR.out.ro.lt g rfl).2 (fun e => hrg e.symm))).trans hkk
      refine region_pivot 10 9 [[], [0], [], [2], [3], [4], [5], [], [7], [6, 8]] (fun w w' => w.grownBy w' row) (fun w => w.ownsRow (s0 + 1) 3 1 (.slice Ak m ck) m (ints (kidR m)))
        (fun v w => w.ownsRow (s0 + 1) 3 1 v (m + 1) (ints (kidR (m + 1))))
        (pick [IsV (.pointer (some ⟨s0 + 2, 0, none⟩)), IsV (.slice (some ⟨g, 0, none⟩) (m + 1) c), IsV (.pointer (some ⟨s0 + 2, 0, none⟩)), IsV (.slice (some ⟨g, 0, none⟩) (m + 1) c), IsV (.pointer (some ⟨g, 0, none⟩)), IsV (.pointer (some ⟨g, 18, none⟩)), IsV (.slice Ak m ck), IsV (.int .i64 ((m : Int) + 1)), BlkV wr.heap.size #[.int .i64 ((m : Int) + 1)] 3 1, fun _ _ => True])
        mixed (by kernel_rfl) (by omega) (fun a b c h1 h2 => grown_trans h1 h2) (below_grown (Below.refl _ _).drew row) ?_ (own_below' HR.out.rk (Below.refl _ _).drew) ?_ ?_
      · intro i v w1 w2 h hE
        unfold pick at h ⊢
        by_cases e8 : i = 8
        · subst e8
          obtain ⟨gb, e, hg, hh⟩ := h
          exact ⟨gb, e, hg, (hE.block gb (lt_of_block hh) (fun e => by have := hrl gb e.symm; omega)).trans hh⟩
        · have hi : i = 0 ∨ i = 1 ∨ i = 2 ∨ i = 3 ∨ i = 4 ∨ i = 5 ∨ i = 6 ∨ i = 7 ∨ i = 9 ∨ 9 < i := by omega
          rcases hi with rfl | rfl | rfl | rfl | rfl | rfl | rfl | rfl | rfl | hi
          iterate 9 exact h
          rw [List.getD_eq_getElem?_getD, List.getElem?_eq_none (by simp; omega)]
          trivial
      · simp only [List.take_succ_cons, List.take_zero, PivObs, DepAll, dsOf, List.map_cons, List.map_nil]
        refine ⟨?_, ?_, ?_, ?_, ?_, ?_, ?_, ?_, ?_, ?_, trivial⟩
        all_goals intro w1 hw1 hIw
        all_goals have gr := below_grown (Below.refl w1.heap.size w1) row
        all_goals have k1 := HE1.out w1 hw1
        all_goals have k2 := HE2.out w1 hw1
        case' refine_2 => intro v h
        case' refine_4 => intro v h
        case' refine_5 => intro v h
        case' refine_6 => intro v h
        case' refine_7 => intro v h
        case' refine_9 => intro v h
        case' refine_10 => intro v h v' h'
        all_goals try simp only [pick, IsV, List.getD_cons_succ, List.getD_cons_zero] at h
        case refine_1 => simp [go_sem, uponR, pick, IsV, gr]
        case refine_2 => subst h; simp [go_sem, uponR, pick, IsV, gr, k1]
        case refine_3 => simp [go_sem, uponR, pick, IsV, gr]
        case refine_4 => subst h; simp [go_sem, uponR, pick, IsV, gr, k1]
        case refine_5 => subst h; simp [go_sem, uponR, pick, IsV, gr, hi0, hi1]
        case refine_6 => subst h; simp [go_sem, uponR, pick, IsV, gr]
        case refine_7 => subst h; simp [go_sem, uponR, pick, IsV, gr, k2]
        case refine_8 => simp [go_sem, uponR, pick, IsV, gr]
        case refine_9 =>
          subst h
          have hab9 : Below w1.heap.size w1 (w1.alloc (.cells #[.int .i64 ((m : Int) + 1)] 3)) := (Below.refl _ _).alloc (Nat.le_refl _) _
          have hB : BlkV wr.heap.size #[.int .i64 ((m : Int) + 1)] 3 1 (.slice (some ⟨w1.heap.size, 0, none⟩) 1 1) (w1.alloc (.cells #[.int .i64 ((m : Int) + 1)] 3)) := ⟨_, rfl, hw1.size, World.alloc_heap_new _ _⟩
          simp [go_sem, uponR, pick]
          exact ⟨hB, below_grown hab9 row, fun h => own_below' h hab9, fun u h1 => own_below' h1 hab9⟩
        case refine_10 =>
          simp only [pick, List.getD_cons_succ, List.getD_cons_zero] at h'
          obtain ⟨gb, rfl, hgb, hh⟩ := h'
          subst h
          simp only [Act.put, Option.getD_some, List.setIfInBounds_toArray, List.set_cons_zero, List.set_cons_succ]
          refine uponR_append_int (.tmp 19) (.tmp 21) rfl (s0 + 1) (.slice Ak m ck) (kidR m) ((m : Int) + 1) gb (by simp [Act.eval]) (by simp [Act.eval]) (by rw [kidR_len]; exact hIw (by first | trivial | rfl)) (by rw [blk_cell hh]; rfl) (by rw [kidR_len]; omega) (by have := hw1.size; have := lt_of_block HR.out.b2; omega) ?_
          intro v' w' ho' hg' hk'
          rw [← kidR_succ, kidR_len] at ho'
          rw [hrow] at hg'
          exact ⟨fun _ => ho', trivial, hg', fun h => absurd rfl h⟩
      intro w5 hg5
      simp only [show List.range 10 = [0, 1, 2, 3, 4, 5, 6, 7, 8, 9] from rfl, DepAll, dsOf, List.map_cons, List.map_nil, List.take_succ_cons, List.take_zero]
      rintro _ ⟨rfl, _⟩ _ ⟨rfl, _⟩ _ ⟨rfl, _⟩ _ ⟨rfl, _⟩ _ ⟨rfl, _⟩ _ ⟨rfl, _⟩ _ ⟨rfl, _⟩ _ ⟨rfl, _⟩ v8 _ v9 ⟨_, hv9⟩
      have ho5 := hv9 (by first | trivial | rfl)
      obtain ⟨A7, c7, rfl⟩ := own_shape ho5
      simp only [List.getD_cons_succ, List.getD_cons_zero, List.drop_succ_cons, List.drop_zero]
      simp only [Act.put, Option.getD_some, List.setIfInBounds_toArray, List.set_cons_zero, List.set_cons_succ]
      obtain ⟨hR5, k5a, k5b, k5c, k5f, k5l⟩ := HR.out.kid (by omega) ho5 (by rw [hrow]; exact hg5)
      have HR5 := hid hR5
      clear hR5 ho5 hv9
      go_upto_region 6 with fail
      focus
        generalize w5.setCell ⟨g, 18, none⟩ (.slice A7 (m + 1) c7) = V at *
        clear k5a k5c k5f k5l hkk k2 HE1 HE2
        have hVs := HR5.out.bl.size
        have hrn := (HR5.out.ro).alloc (.cells (ndC ndG (.slice none 0 0) (.slice none 0 0)).toArray 39)
        have hat : At (V.alloc (.cells (ndC ndG (.slice none 0 0) (.slice none 0 0)).toArray 39)).heap.size (V.alloc (.cells (ndC ndG (.slice none 0 0) (.slice none 0 0)).toArray 39)) (some ⟨V.heap.size, 0, none⟩) (ndC ndG (.slice none 0 0) (.slice none 0 0)) := by
          intro _
          refine ⟨V.heap.size, 0, rfl, by simp, fun q v hq => ?_⟩
          rw [blk_cell (World.alloc_heap_new _ _), Nat.zero_add]
          simpa using hq
        have HRN := hid hrn
        have HAT := hid hat
        obtain ⟨i0, hi1, hz0, hz1, hz2⟩ := info_parts info_nd
        clear hrn hat
        go_wp2_with (first
          | (at_builtin; refine append_many Tryd.underlying23 hi1 hz0 hz1 hz2 rfl (by decide) rfl (.tmp 26) (.tmp 28) rfl (s0 + 1) (.slice (some ⟨g, 0, none⟩) (m + 1) c) (m + 1) (cellsT (rowT (m + 1) m (.slice A7 (m + 1) c7))) (some ⟨V.heap.size, 0, none⟩) 1 1 _ (ndC ndG (.slice none 0 0) (.slice none 0 0)) rfl rfl (fun h => by cases h) HRN.out HAT.out rfl (by decide) ?_ ?_ (by simp; omega) ?_))
        · unfold maxLen; omega
        · omega
        intro v6 w6 ho6 hg6
        rw [rowT_put] at ho6
        obtain ⟨⟨g', c', rfl, hR6⟩, k6a, k6f, k6l⟩ := HR5.out.node (by omega) ho6 ⟨hg6.os, hg6.tape, hg6.output, hg6.size, hg6.block⟩
        have HR6 := hid hR6
        clear hR6 ho6 hg6 HR5 HR HRN HAT
        go_wp2
        go_roundg (n - (m + 1))
        case measure => omega
        case rel => exact ⟨m + 1, g', c', A7, c7, by go_num, by omega, by omega, HR6⟩
    · have hmn : m = n := by omega
      subst hmn
      have hli : ¬ ((m : Int) + 1 ≤ (m : Int)) := by omega
      have c0 : wr.cell? ⟨s0, 0, none⟩ = some (.slice none 0 0) := by rw [blk_cell HR.out.b0]; rfl
      have f0 := blk_frozen HR.out.b0 0
      have l0 := lt_of_block HR.out.b0
      have hF : FormP w (rowL m) (.returned (.agg #[.slice (some ⟨g, 0, none⟩) (m + 1) c])) (wr.setCell ⟨s0, 0, none⟩ (.slice (some ⟨g, 0, none⟩) (m + 1) c)) := by
        refine ⟨some ⟨g, 0, none⟩, c, by rw [rowL_len], ?_, ?_⟩
        · refine ⟨rowT m m (.slice Ak m ck), by simp [rowT, rowL], ?_, ?_⟩
          · rw [rowL_len]
            exact own_mono (own_off HR.out.ro (own_nebox HR.out.ro HR.out.b0 (by decide))) (by omega)
          · intro t ht
            simp only [rowT, List.mem_cons] at ht
            rcases ht with rfl | ht
            · refine ⟨World.ownsRow_nil _ _ _ _, ?_⟩
              show World.ownsRow _ _ _ _ _ (kidR m).length (ints (kidR m))
              rw [kidR_len]
              exact own_mono (own_off HR.out.rk (own_nebox HR.out.rk HR.out.b0 (by decide))) (by omega)
            · rw [List.eq_of_mem_replicate ht]
              exact ⟨World.ownsRow_nil _ _ _ _, World.ownsRow_nil _ _ _ _⟩
        · rw [HS.out]
          exact HR.out.bl.setCell (p := ⟨s0, 0, none⟩) (Nat.le_refl _) _
      have c0' := (store_in (i := 0) (u := .slice (some ⟨g, 0, none⟩) (m + 1) c) HR.out.b0)
      have c1 : (wr.setCell ⟨s0, 0, none⟩ (.slice (some ⟨g, 0, none⟩) (m + 1) c)).cell? ⟨s0, 0, none⟩ = some (.slice (some ⟨g, 0, none⟩) (m + 1) c) := by rw [blk_cell c0']; rfl
      have HF := hid hF
      clear hF c0' HR hlt hm hgh
      go_wp2
      refine bodyPost_ret (v := .agg #[.slice (some ⟨g, 0, none⟩) (m + 1) c]) (by simp [results, Tryd.results11, go_sem, *]) rfl HF.out
end Go.Proofs.YtnkojoajcdhngaaDoor

/- Layer 8: deep: boxes in one another. -/
namespace Go.Proofs.YtnkojoajcdhngaaDoor
set_option linter.unusedVariables false
set_option linter.unusedSimpArgs false
set_option maxRecDepth 100000
open Go.RowKit Go.Shelf Go.Lib
attribute [local go_sem] Oper.semAt_some
set_option maxRecDepth 100000
set_option maxHeartbeats 16000000

def deepN (n i : Nat) : Nd := nd0 4 ⟨#[]⟩ (if i + 1 < n then [(i : Int) + 1] else [])
def deepL (n : Nat) : List Nd := (List.range n).map (deepN n)
theorem deepL_len (n : Nat) : (deepL n).length = n := by simp [deepL]
theorem deepL_take (n m : Nat) (h : m < n) : (deepL n).take (m + 1) = (deepL n).take m ++ [deepN n m] := by
  rw [List.take_succ_eq_append_getElem (by rw [deepL_len]; exact h)]
  simp [deepL]
structure DpS (s0 : Nat) (w : World) (n m : Nat) (A : Option Addr) (c : Nat) (T : List Tri) (W : World) : Prop where
  bl : Below s0 w W
  b0 : W.heap[s0]? = some (.cells #[.slice none 0 0] 25 (0, 0))
  b1 : W.heap[s0 + 1]? = some (.cells #[.slice A m c] 25 (0, 0))
  ts : T.map (·.1) = (deepL n).take m
  ro : W.ownsRow (s0 + 2) 39 19 (.slice A m c) m (cellsT T)
  tr : ∀ t ∈ T, TriO (s0 + 2) W t
theorem DpS.on {s0 : Nat} {w : World} {n m : Nat} {A : Option Addr} {c : Nat} {T : List Tri} {W V : World} (h : DpS s0 w n m A c T W) (hs : s0 ≤ W.heap.size) (hV : Below W.heap.size W V) : DpS s0 w n m A c T V :=
  ⟨h.bl.trans (hV.mono hs), (hV.block _ (lt_of_block h.b0)).trans h.b0, (hV.block _ (lt_of_block h.b1)).trans h.b1, h.ts, own_below' h.ro hV, fun t ht => (h.tr t ht).below hV⟩
theorem TriO.other {base b2 n2 : Nat} {w w' : World} {t : Tri} {v2 : Value} {x2 : List Value} (h : TriO base w t) (h2 : w.ownsRow b2 39 19 v2 n2 x2) (hg : w.grownBy w' v2.ownBlock) : TriO base w' t :=
  ⟨own_other h.1 h2 (by decide) hg, own_other h.2 h2 (by decide) hg⟩
theorem DpS.put {s0 : Nat} {w : World} {n m : Nat} {A : Option Addr} {c : Nat} {T : List Tri} {W w5 : World} {v vk : Value} {nd : Nd} (h : DpS s0 w n m A c T W) (htr : TriO (s0 + 2) W (nd, .slice none 0 0, vk))
    (ho : w5.ownsRow (s0 + 2) 39 19 v (m + 1) (cellsT T ++ ndC nd (.slice none 0 0) vk)) (hg : W.grownBy w5 (Value.slice A m c).ownBlock) (hnd : (deepL n).take (m + 1) = (deepL n).take m ++ [nd]) :
    (∃ A' c', v = .slice A' (m + 1) c' ∧ DpS s0 w n (m + 1) A' c' (T ++ [(nd, .slice none 0 0, vk)]) (w5.setCell ⟨s0 + 1, 0, none⟩ v)) ∧ w5.cell? ⟨s0 + 1, 0, none⟩ = some (.slice A m c) ∧ w5.frozen? ⟨s0 + 1, 0, none⟩ = false ∧ s0 + 1 < w5.heap.size := by
  have l0 := lt_of_block h.b0
  have l1 := lt_of_block h.b1
  have e0 : w5.heap[s0]? = _ := (hg.block s0 l0 (fun e => own_nebox h.ro h.b0 (by decide) e.symm)).trans h.b0
  have e1 : w5.heap[s0 + 1]? = _ := (hg.block (s0 + 1) l1 (fun e => own_nebox h.ro h.b1 (by decide) e.symm)).trans h.b1
  have hb5 : Below s0 w w5 := h.bl.grown hg (by omega) (fun k hk => by have := own_ge h.ro k hk; omega)
  refine ⟨?_, by rw [blk_cell e1]; rfl, blk_frozen e1 0, lt_of_block e1⟩
  obtain ⟨A', c', rfl⟩ := own_shape ho
  have hset : ∀ t, TriO (s0 + 2) W t → TriO (s0 + 2) (w5.setCell ⟨s0 + 1, 0, none⟩ (.slice A' (m + 1) c')) t := by
    intro t ht
    have h1 := ht.other h.ro hg
    exact ⟨own_off h1.1 (own_nebox h1.1 e1 (by decide)), own_off h1.2 (own_nebox h1.2 e1 (by decide))⟩
  refine ⟨A', c', rfl, hb5.setCell (p := ⟨s0 + 1, 0, none⟩) (by show s0 ≤ s0 + 1; omega) _, store_off e0 (by omega), store_in (i := 0) e1, ?_, ?_, ?_⟩
  · rw [List.map_append, h.ts, hnd]
    rfl
  · rw [cellsT_append]
    have : cellsT [(nd, Value.slice none 0 0, vk)] = ndC nd (.slice none 0 0) vk := by simp [cellsT]
    rw [this]
    exact own_off ho (own_nebox ho e1 (by decide))
  · intro t ht
    rcases List.mem_append.1 ht with ht | ht
    · exact hset t (h.tr t ht)
    · rw [List.mem_singleton.1 ht]
      exact hset _ htr
theorem deep_any (n : Nat) (hn : n ≤ 100000) (w : World) : Calls Tryd.prog 13 #[.int .i64 n] w (FormP w (deepL n)) := by
  obtain ⟨s0, hs⟩ : ∃ s0, w.heap.size = s0 := ⟨_, rfl⟩
  have HS := hid hs
  go_enter Tryd.func13, Tryd.ntmps13
  go_upto_region 2 with fail
  obtain ⟨W, hW⟩ : ∃ W, (w.alloc (.cells #[.slice none 0 0] 25)).alloc (.cells #[.slice none 0 0] 25) = W := ⟨_, rfl⟩
  have h0 : DpS s0 w n 0 none 0 [] W := by
    have e1 : (w.alloc (.cells #[.slice none 0 0] 25)).heap.size = s0 + 1 := by simp [hs]
    have k0 := World.alloc_heap_new w (.cells #[.slice none 0 0] 25)
    have k1 := World.alloc_heap_new (w.alloc (.cells #[.slice none 0 0] 25)) (.cells #[.slice none 0 0] 25)
    rw [hs] at k0
    rw [e1, hW] at k1
    refine ⟨?_, ?_, k1, rfl, World.ownsRow_nil _ _ _ _, fun t ht => by cases ht⟩
    · rw [← hW, ← hs]
      exact ((Below.refl _ _).alloc (Nat.le_refl _) _).alloc (by simp) _
    · rw [← hW, Below.heap_alloc _ _ _ (by omega)]
      exact k0
  have H0 := hid h0
  rw [hW]
  clear hW h0 hs
  go_wp2_with fail
  go_loopg [4] n (fun gh v4 wr => ∃ (m : Nat) (A : Option Addr) (c : Nat) (T : List Tri), v4 = .int .i64 (m : Int) ∧ m ≤ n ∧ n - m ≤ gh ∧ Hid (DpS s0 w n m A c T wr))
  case atStart => exact ⟨0, none, 0, [], rfl, by omega, by omega, H0⟩
  case round =>
    obtain ⟨m, A, c, T, rfl, hm, hgh, HR⟩ := hrel
    have lsz := HR.out.bl.size
    have hSs := HS.out
    have k2 : wr.cell? ⟨s0 + 1, 0, none⟩ = some (.slice A m c) := by rw [blk_cell HR.out.b1]; rfl
    by_cases hlt : m < n
    · have hli : (m : Int) < (n : Int) := by omega
      obtain ⟨zc, hzc⟩ : ∃ zc : Array Value, zc = (ndC (nd0 4 ⟨#[]⟩ []) (.slice none 0 0) (.slice none 0 0)).toArray := ⟨_, rfl⟩
      have hz1 : (Tryd.prog.info? 39).map (·.size) = some zc.size := by rw [hzc]; exact info_node
      have hz2 : zc.all (·.oneCell') = true := by rw [hzc]; exact ndC_one _
      have hz3 : (#[.int .u8 0, .string { data := #[] }, .string { data := #[] }, .string { data := #[] }, .int .i64 0, .int .i64 0, .int .i64 0, .int .i64 0, .int .i64 0, .int .i64 0, .bool false, .int .i64 0, .int .i64 0, .int .i64 0, .int .i64 0, .int .i64 0, .bool false, .slice none 0 0, .slice none 0 0] : Array Value).size = zc.size := by rw [hzc]; rfl
      go_upto_region 6 with (first
        | (refine wpList_store_row rfl 39 (.tmp 5) (.tmp 11) rfl wr.heap.size zc rfl (by rw [hzc]; rfl) 39 _ (World.alloc_heap_new _ _) hz1 hz3 hz2 ?_))
      rw [World.setRow_alloc_new]
      obtain ⟨V, hV⟩ : ∃ V, wr.alloc (.cells zc 39) = V := ⟨_, rfl⟩
      rw [hV]
      have hbV : Below wr.heap.size wr V := by rw [← hV]; exact (Below.refl _ _).alloc (Nat.le_refl _) _
      have hnV : NBox wr.heap.size (nd0 4 ⟨#[]⟩ []) (.slice none 0 0) (.slice none 0 0) V := by
        unfold NBox
        rw [← hV, ← hzc]
        exact World.alloc_heap_new _ _
      have HDV := hid (HR.out.on (by omega) hbV)
      have HNV := hid hnV
      have lV := lt_of_block hnV
      have hl1 := lt_of_block HR.out.b1
      clear hbV hnV hV hz1 hz2 hz3 hzc
      by_cases hlt2 : m + 1 < n
      · have hlj : (m : Int) + 1 < (n : Int) := by omega
        have hdn : deepN n m = nd0 4 ⟨#[]⟩ [(m : Int) + 1] := by unfold deepN; rw [if_pos hlt2]
        have hA : Below V.heap.size V (V.alloc (.cells #[.int .i64 ((m : Int) + 1)] 3)) := (Below.refl _ _).alloc (Nat.le_refl _) _
        have n1 := HNV.out.on hA
        have c18 := n1.cells.2.2.2.2.2.2.2.2.2.2.2.2.2.2.2.2.2.2
        have f18 := blk_frozen n1 18
        have l18 := lt_of_block n1
        have n2 := n1.set18 (.slice (some ⟨V.heap.size, 0, none⟩) 1 1)
        have d1 := HDV.out.on (by have := HDV.out.bl.size; omega) hA
        have hne : ∀ b, b = wr.heap.size → (∀ t, t ∈ T → t.2.1.ownBlock ≠ some b ∧ t.2.2.ownBlock ≠ some b) := by
          rintro b rfl t ht
          exact ⟨own_nebox (d1.tr t ht).1 n1 (by decide), own_nebox (d1.tr t ht).2 n1 (by decide)⟩
        have d2 : DpS s0 w n m A c T ((V.alloc (.cells #[.int .i64 ((m : Int) + 1)] 3)).setCell ⟨wr.heap.size, 18, none⟩ (.slice (some ⟨V.heap.size, 0, none⟩) 1 1)) :=
          ⟨d1.bl.setCell (p := ⟨wr.heap.size, 18, none⟩) (by show s0 ≤ wr.heap.size; omega) _, store_off d1.b0 (by omega), store_off d1.b1 (by omega), d1.ts, own_off d1.ro (fun e => by
            have h1 := HR.out.ro
            rcases h1.2 with ⟨e1, _⟩ | ⟨g, cap, cur, e1, _, hh, _⟩
            · rw [e1] at e
              cases e
            · rw [e1] at e
              injection e with e
              simp only at e
              have := lt_of_block hh
              omega), fun t ht => ⟨own_off (d1.tr t ht).1 (hne _ rfl t ht).1, own_off (d1.tr t ht).2 (hne _ rfl t ht).2⟩⟩
        have hnew := store_off (i := 18) (u := .slice (some ⟨V.heap.size, 0, none⟩) 1 1) (World.alloc_heap_new V (.cells #[.int .i64 ((m : Int) + 1)] 3)) (show V.heap.size ≠ wr.heap.size by omega)
        have HTX := hid (show TriO (s0 + 2) ((V.alloc (.cells #[.int .i64 ((m : Int) + 1)] 3)).setCell ⟨wr.heap.size, 18, none⟩ (.slice (some ⟨V.heap.size, 0, none⟩) 1 1)) (deepN n m, .slice none 0 0, .slice (some ⟨V.heap.size, 0, none⟩) 1 1) from by
          rw [hdn]
          refine ⟨World.ownsRow_nil _ _ _ _, ⟨rfl, .inr ⟨V.heap.size, 1, #[.int .i64 ((m : Int) + 1)], rfl, by omega, hnew, Nat.le_refl _, by decide, rfl, rfl⟩⟩⟩)
        have HNX := hid (show NBox wr.heap.size (deepN n m) (.slice none 0 0) (.slice (some ⟨V.heap.size, 0, none⟩) 1 1) _ from by
          rw [hdn]
          exact n2)
        have HDX := hid d2
        have HVK := hid (show (ndC (deepN n m) (.slice none 0 0) (.slice (some ⟨V.heap.size, 0, none⟩) 1 1)).toArray.all (·.oneCell') = true from ndC_one _)
        clear n1 n2 d1 d2 hne hnew hA
        have hcm := World.setCell_alloc_past (w := V) (.cells #[.int .i64 ((m : Int) + 1)] 3) wr.heap.size 18 (.slice (some ⟨V.heap.size, 0, none⟩) 1 1) lV
        rw [hcm] at HDX HNX HTX
        clear hcm
        go_upto_region 8 with fail
        generalize (V.setCell ⟨wr.heap.size, 18, none⟩ (.slice (some ⟨V.heap.size, 0, none⟩) 1 1)).alloc (.cells #[.int .i64 ((m : Int) + 1)] 3) = X at *
        clear c18 f18 l18
        obtain ⟨VK, hVK⟩ : ∃ VK, Value.slice (some ⟨V.heap.size, 0, none⟩) 1 1 = VK := ⟨_, rfl⟩
        rw [hVK] at HNX HTX HVK
        obtain ⟨cs2, hcs2⟩ : ∃ cs2, ndC (deepN n m) (.slice none 0 0) VK = cs2 := ⟨_, rfl⟩
        have hcl2 : cs2.length = 19 := by rw [← hcs2]; rfl
        have hn2 := HNX.out
        unfold NBox at hn2
        rw [hcs2] at hn2
        have HN2 := hid hn2
        have HCS2 := hid hcs2
        have hsX := HDX.out.bl.size
        have hlX := lt_of_block HDX.out.b1
        have kX : X.cell? ⟨s0 + 1, 0, none⟩ = some (.slice A m c) := by rw [blk_cell HDX.out.b1]; rfl
        clear hn2 hcs2
        have hfo : List.foldl (fun (cs : Array Value) (x : Value × Nat) => cs.setIfInBounds x.snd x.fst) #[Value.int IntKind.u8 0, Value.string { data := #[] }, Value.string { data := #[] }, Value.string { data := #[] }, Value.int IntKind.i64 0, Value.int IntKind.i64 0, Value.int IntKind.i64 0, Value.int IntKind.i64 0, Value.int IntKind.i64 0, Value.int IntKind.i64 0, Value.bool false, Value.int IntKind.i64 0, Value.int IntKind.i64 0, Value.int IntKind.i64 0, Value.int IntKind.i64 0, Value.int IntKind.i64 0, Value.bool false, Value.slice none 0 0, Value.slice none 0 0] cs2.zipIdx = cs2.toArray := fold_set cs2 [Value.int IntKind.u8 0, Value.string { data := #[] }, Value.string { data := #[] }, Value.string { data := #[] }, Value.int IntKind.i64 0, Value.int IntKind.i64 0, Value.int IntKind.i64 0, Value.int IntKind.i64 0, Value.int IntKind.i64 0, Value.int IntKind.i64 0, Value.bool false, Value.int IntKind.i64 0, Value.int IntKind.i64 0, Value.int IntKind.i64 0, Value.int IntKind.i64 0, Value.int IntKind.i64 0, Value.bool false, Value.slice none 0 0, Value.slice none 0 0] 0 (by rw [hcl2]; rfl)
        have HFO := hid hfo
        obtain ⟨i0, hi1, hy0, hy1, hy2⟩ := info_parts info_nd
        have hatn : At (X.alloc (.cells cs2.toArray 39)).heap.size (X.alloc (.cells cs2.toArray 39)) (some ⟨X.heap.size, 0, none⟩) cs2 := by
          intro _
          refine ⟨X.heap.size, 0, rfl, by simp, fun q v hq => ?_⟩
          rw [blk_cell (World.alloc_heap_new _ _), Nat.zero_add]
          simpa using hq
        have hone : ∀ u ∈ cs2, u.oneCell' = true := by
          intro u hu
          rw [← HCS2.out] at hu
          have := HVK.out
          rw [Array.all_eq_true_iff_forall_mem] at this
          exact this u (by simpa using hu)
        have HAT := hid hatn
        have HONE := hid hone
        have HROX := hid (HDX.out.ro.alloc (.cells cs2.toArray 39))
        clear hfo hatn hone
        go_wp2_with (first
          | (refine load_box rfl (.tmp 5) rfl wr.heap.size rfl cs2 hcl2 HN2.out ?_)
          | (at_builtin; rw [HFO.out]; refine append_many Tryd.underlying23 hi1 hy0 hy1 hy2 rfl (by decide) rfl (.tmp 21) (.tmp 23) rfl (s0 + 2) (.slice A m c) m (cellsT T) (some ⟨X.heap.size, 0, none⟩) 1 1 _ cs2 rfl rfl (fun h => by cases h) HROX.out HAT.out (by rw [hcl2]) HONE.out ?_ ?_ (by simp; omega) ?_))
        · unfold maxLen; omega
        · omega
        intro v6 w6 ho6 hg6
        have hXa : Below X.heap.size X (X.alloc (.cells cs2.toArray 39)) := (Below.refl _ _).alloc (Nat.le_refl _) _
        rw [← HCS2.out] at ho6
        obtain ⟨⟨A', c', rfl, hR6⟩, k6a, k6f, k6l⟩ := (HDX.out.on (by omega) hXa).put (HTX.out.below hXa) ho6 hg6 (deepL_take n m hlt)
        have HR6 := hid hR6
        clear hR6 ho6 hg6 HDX HTX HNX HR HROX HAT HN2 hXa
        go_wp2
        go_roundg (n - (m + 1))
        case measure => omega
        case rel => exact ⟨m + 1, A', c', _, by go_num, by omega, by omega, HR6⟩
      · have hlj : ¬ (m : Int) + 1 < (n : Int) := by omega
        have hdn : deepN n m = nd0 4 ⟨#[]⟩ [] := by unfold deepN; rw [if_neg hlt2]
        have HDX := HDV
        have HNX := hid (show NBox wr.heap.size (deepN n m) (.slice none 0 0) (.slice none 0 0) V from by
          rw [hdn]
          exact HNV.out)
        have HTX := hid (show TriO (s0 + 2) V (deepN n m, .slice none 0 0, (.slice none 0 0)) from by
          rw [hdn]
          exact ⟨World.ownsRow_nil _ _ _ _, World.ownsRow_nil _ _ _ _⟩)
        have HVK := hid (show (ndC (deepN n m) (.slice none 0 0) (.slice none 0 0)).toArray.all (·.oneCell') = true from by
          exact ndC_one _)
        go_upto_region 8 with fail
        obtain ⟨cs2, hcs2⟩ : ∃ cs2, ndC (deepN n m) (.slice none 0 0) (.slice none 0 0) = cs2 := ⟨_, rfl⟩
        have hcl2 : cs2.length = 19 := by rw [← hcs2]; rfl
        have hn2 := HNX.out
        unfold NBox at hn2
        rw [hcs2] at hn2
        have HN2 := hid hn2
        have HCS2 := hid hcs2
        have hsX := HDX.out.bl.size
        have hlX := lt_of_block HDX.out.b1
        have kX : V.cell? ⟨s0 + 1, 0, none⟩ = some (.slice A m c) := by rw [blk_cell HDX.out.b1]; rfl
        clear hn2 hcs2
        have hfo : List.foldl (fun (cs : Array Value) (x : Value × Nat) => cs.setIfInBounds x.snd x.fst) #[Value.int IntKind.u8 0, Value.string { data := #[] }, Value.string { data := #[] }, Value.string { data := #[] }, Value.int IntKind.i64 0, Value.int IntKind.i64 0, Value.int IntKind.i64 0, Value.int IntKind.i64 0, Value.int IntKind.i64 0, Value.int IntKind.i64 0, Value.bool false, Value.int IntKind.i64 0, Value.int IntKind.i64 0, Value.int IntKind.i64 0, Value.int IntKind.i64 0, Value.int IntKind.i64 0, Value.bool false, Value.slice none 0 0, Value.slice none 0 0] cs2.zipIdx = cs2.toArray := fold_set cs2 [Value.int IntKind.u8 0, Value.string { data := #[] }, Value.string { data := #[] }, Value.string { data := #[] }, Value.int IntKind.i64 0, Value.int IntKind.i64 0, Value.int IntKind.i64 0, Value.int IntKind.i64 0, Value.int IntKind.i64 0, Value.int IntKind.i64 0, Value.bool false, Value.int IntKind.i64 0, Value.int IntKind.i64 0, Value.int IntKind.i64 0, Value.int IntKind.i64 0, Value.int IntKind.i64 0, Value.bool false, Value.slice none 0 0, Value.slice none 0 0] 0 (by rw [hcl2]; rfl)
        have HFO := hid hfo
        obtain ⟨i0, hi1, hy0, hy1, hy2⟩ := info_parts info_nd
        have hatn : At (V.alloc (.cells cs2.toArray 39)).heap.size (V.alloc (.cells cs2.toArray 39)) (some ⟨V.heap.size, 0, none⟩) cs2 := by
          intro _
          refine ⟨V.heap.size, 0, rfl, by simp, fun q v hq => ?_⟩
          rw [blk_cell (World.alloc_heap_new _ _), Nat.zero_add]
          simpa using hq
        have hone : ∀ u ∈ cs2, u.oneCell' = true := by
          intro u hu
          rw [← HCS2.out] at hu
          have := HVK.out
          rw [Array.all_eq_true_iff_forall_mem] at this
          exact this u (by simpa using hu)
        have HAT := hid hatn
        have HONE := hid hone
        have HROX := hid (HDX.out.ro.alloc (.cells cs2.toArray 39))
        clear hfo hatn hone
        go_wp2_with (first
          | (refine load_box rfl (.tmp 5) rfl wr.heap.size rfl cs2 hcl2 HN2.out ?_)
          | (at_builtin; rw [HFO.out]; refine append_many Tryd.underlying23 hi1 hy0 hy1 hy2 rfl (by decide) rfl (.tmp 21) (.tmp 23) rfl (s0 + 2) (.slice A m c) m (cellsT T) (some ⟨V.heap.size, 0, none⟩) 1 1 _ cs2 rfl rfl (fun h => by cases h) HROX.out HAT.out (by rw [hcl2]) HONE.out ?_ ?_ (by simp; omega) ?_))
        · unfold maxLen; omega
        · omega
        intro v6 w6 ho6 hg6
        have hXa : Below V.heap.size V (V.alloc (.cells cs2.toArray 39)) := (Below.refl _ _).alloc (Nat.le_refl _) _
        rw [← HCS2.out] at ho6
        obtain ⟨⟨A', c', rfl, hR6⟩, k6a, k6f, k6l⟩ := (HDX.out.on (by omega) hXa).put (HTX.out.below hXa) ho6 hg6 (deepL_take n m hlt)
        have HR6 := hid hR6
        clear hR6 ho6 hg6 HDX HTX HNX HR HROX HAT HN2 hXa
        go_wp2
        go_roundg (n - (m + 1))
        case measure => omega
        case rel => exact ⟨m + 1, A', c', _, by go_num, by omega, by omega, HR6⟩
    · have hmn : m = n := by omega
      subst hmn
      have hli : ¬ ((m : Int) < (m : Int)) := by omega
      have c0 : wr.cell? ⟨s0, 0, none⟩ = some (.slice none 0 0) := by rw [blk_cell HR.out.b0]; rfl
      have f0 := blk_frozen HR.out.b0 0
      have l0 := lt_of_block HR.out.b0
      have hF : FormP w (deepL m) (.returned (.agg #[.slice A m c])) (wr.setCell ⟨s0, 0, none⟩ (.slice A m c)) := by
        refine ⟨A, c, by rw [deepL_len], ?_, ?_⟩
        · refine ⟨T, ?_, ?_, ?_⟩
          · rw [HR.out.ts, List.take_of_length_le (by rw [deepL_len]; omega)]
          · rw [deepL_len]
            exact own_mono (own_off HR.out.ro (own_nebox HR.out.ro HR.out.b0 (by decide))) (by omega)
          · intro t ht
            have h1 := HR.out.tr t ht
            exact ⟨own_mono (own_off h1.1 (own_nebox h1.1 HR.out.b0 (by decide))) (by omega), own_mono (own_off h1.2 (own_nebox h1.2 HR.out.b0 (by decide))) (by omega)⟩
        · rw [HS.out]
          exact HR.out.bl.setCell (p := ⟨s0, 0, none⟩) (Nat.le_refl _) _
      have c0' := (store_in (i := 0) (u := .slice A m c) HR.out.b0)
      have c1 : (wr.setCell ⟨s0, 0, none⟩ (.slice A m c)).cell? ⟨s0, 0, none⟩ = some (.slice A m c) := by rw [blk_cell c0']; rfl
      have HF := hid hF
      clear hF c0' HR hlt hm hgh
      go_wp2
      refine bodyPost_ret (v := .agg #[.slice A m c]) (by simp [results, Tryd.results13, go_sem, *]) rfl HF.out
end Go.Proofs.YtnkojoajcdhngaaDoor
