/- Layer 8: rows of numbers in blocks of their own; nodes in a row; parents and depths (the program's). -/
import Derived.Test.YtnkojoajcdhngaaDoorTr4
import Derived.Deep.OwnRows
import Derived.Deep.CutRange
import Derived.Deep.MidRow
import Derived.Deep.WholeRow
import Derived.Laws.Tables
import Derived.Laws.Rows
import Derived.BigFrame
namespace Go.Proofs.YtnkojoajcdhngaaDoor
set_option linter.unusedVariables false
set_option linter.unusedSimpArgs false
set_option maxRecDepth 100000
open Go.RowKit Go.Shelf Go.Lib
set_option maxRecDepth 100000
set_option maxHeartbeats 16000000

/-- A row of numbers that fills its block. -/
def Row1 (w : World) (g : Nat) (U : List Int) : Prop := w.heap[g]? = some (.cells (ints U).toArray 3 (0, 0))
theorem ints_get (U : List Int) (i : Nat) : (ints U)[i]? = U[i]?.map (fun n => .int .i64 n) := by simp [ints]
theorem Row1.lt {w : World} {g : Nat} {U : List Int} (h : Row1 w g U) : g < w.heap.size := lt_of_block h
theorem Row1.on {w w' : World} {g : Nat} {U : List Int} (h : Row1 w g U) (hb : Below w.heap.size w w') : Row1 w' g U := (hb.block g h.lt).trans h
theorem Row1.below {w w' : World} {g B : Nat} {U : List Int} (h : Row1 w g U) (hb : Below B w w') (hg : g < B) : Row1 w' g U := (hb.block g hg).trans h
theorem Row1.cell {w : World} {g : Nat} {U : List Int} (h : Row1 w g U) {k : Nat} (hk : k < U.length) : w.cell? ⟨g, k, none⟩ = some (.int .i64 (U.getD k 0)) := by
  rw [blk_cell h]
  show (ints U).toArray[k]? = _
  rw [List.getElem?_toArray, ints_get, List.getElem?_eq_getElem hk, List.getD_eq_getElem?_getD, List.getElem?_eq_getElem hk]
  rfl
theorem Row1.frozen {w : World} {g : Nat} {U : List Int} (h : Row1 w g U) (k : Nat) : w.frozen? ⟨g, k, none⟩ = false := blk_frozen h k
theorem Row1.set {w : World} {g : Nat} {U : List Int} (h : Row1 w g U) (k : Nat) (v : Int) : Row1 (w.setCell ⟨g, k, none⟩ (.int .i64 v)) g (U.set k v) := by
  have h2 : (w.setCell ⟨g, k, none⟩ (.int .i64 v)).heap[g]? = some (.cells ((ints U).toArray.setIfInBounds k (.int .i64 v)) 3 (0, 0)) := store_in h
  unfold Row1
  rw [h2]
  congr 2
  simp [ints, List.map_set]
theorem Row1.off {w : World} {g b k : Nat} {u : Value} {U : List Int} (h : Row1 w g U) (hn : g ≠ b) : Row1 (w.setCell ⟨b, k, none⟩ u) g U := store_off h hn
theorem Row1.at_ {w : World} {g : Nat} {U : List Int} (h : Row1 w g U) {B : Nat} (hB : g < B) : At B w (some ⟨g, 0, none⟩) (ints U) := by
  intro _
  refine ⟨g, 0, rfl, hB, fun j v hj => ?_⟩
  rw [Nat.zero_add, blk_cell h]
  simpa using hj
theorem make_row (n : Nat) (hn : n ≤ 1000000) (w : World) : (Instr.makeSlice 37 (.int .i64 (n : Int)) (.int .i64 (n : Int))).run Tryd.prog w = .ok (.slice (some ⟨w.heap.size, 0, none⟩) n n) (w.alloc (.cells (madeCells #[.int .i64 0] n) 3)) :=
  run_make_row' 37 3 (.int .i64 0) 8 Tryd.underlying37 info_int rfl .i64 .i64 n (by omega) (by omega) w
theorem row_made {w : World} {g n : Nat} (h : w.heap[g]? = some (.cells (madeCells #[.int .i64 0] n) 3 (0, 0))) : Row1 w g (List.replicate n 0) := by
  have e : (madeCells #[Value.int .i64 0] n).toList = ints (List.replicate n 0) := by simp [ints, toList_madeCells_one]
  unfold Row1
  rw [h, ← e]
theorem two_allocs (W : World) (o1 o2 : Obj) {n : Nat} (hn : W.heap.size = n) : ((W.alloc o1).alloc o2).drew.heap[n]? = some o1 ∧ ((W.alloc o1).alloc o2).drew.heap[n + 1]? = some o2 ∧ Below n W ((W.alloc o1).alloc o2).drew := by
  subst hn
  refine ⟨?_, ?_, (((Below.refl _ _).alloc (Nat.le_refl _) _).alloc (by simp) _).drew⟩
  · show ((W.alloc o1).alloc o2).heap[W.heap.size]? = _
    rw [Below.heap_alloc _ _ _ (by simp)]
    exact World.alloc_heap_new _ _
  · show ((W.alloc o1).alloc o2).heap[W.heap.size + 1]? = _
    have := World.alloc_heap_new (W.alloc o1) o2
    rwa [World.size_alloc] at this
/-- A slice without memory has nothing. -/
def SlOk (A : Option Addr) (n c : Nat) : Prop := A = none → n = 0 ∧ c = 0
/-- Nodes in a row. -/
def NdsAt (B : Nat) (w : World) (A : Option Addr) (L : List Nd) : Prop := 0 < L.length → ∃ g o, A = some ⟨g, o, none⟩ ∧ g < B ∧ ∀ i (h : i < L.length), ∃ Aw cw Ak ck,
  (∀ j v, (ndC L[i] (.slice Aw L[i].wraps.length cw) (.slice Ak L[i].kids.length ck))[j]? = some v → w.cell? ⟨g, o + i * 19 + j, none⟩ = some v) ∧ At B w Aw (wrs L[i].wraps) ∧ At B w Ak (ints L[i].kids) ∧ SlOk Aw L[i].wraps.length cw ∧ SlOk Ak L[i].kids.length ck
theorem NdsAt.below {B : Nat} {w w' : World} {A : Option Addr} {L : List Nd} (h : NdsAt B w A L) (hb : Below B w w') : NdsAt B w' A L := by
  intro hl
  obtain ⟨g, o, hA, hg, hc⟩ := h hl
  refine ⟨g, o, hA, hg, fun i hi => ?_⟩
  obtain ⟨Aw, cw, Ak, ck, h1, h2, h3, h4⟩ := hc i hi
  exact ⟨Aw, cw, Ak, ck, fun j v hj => by rw [hb.cell (p := ⟨g, o + i * 19 + j, none⟩) hg]; exact h1 j v hj, h2.below hb, h3.below hb, h4⟩
theorem NdsAt.mono {B B' : Nat} {w : World} {A : Option Addr} {L : List Nd} (h : NdsAt B w A L) (hB : B ≤ B') : NdsAt B' w A L := by
  intro hl
  obtain ⟨g, o, hA, hg, hc⟩ := h hl
  refine ⟨g, o, hA, by omega, fun i hi => ?_⟩
  obtain ⟨Aw, cw, Ak, ck, h1, h2, h3, h4⟩ := hc i hi
  exact ⟨Aw, cw, Ak, ck, h1, h2.mono hB, h3.mono hB, h4⟩
theorem NdsAt.nd {B : Nat} {w : World} {A : Option Addr} {L : List Nd} (h : NdsAt B w A L) {i : Nat} (hi : i < L.length) : ∃ g o Aw cw Ak ck, A = some ⟨g, o, none⟩ ∧ g < B ∧ At B w Aw (wrs L[i].wraps) ∧ At B w Ak (ints L[i].kids) ∧
    w.cell? ⟨g, o + i * 19, none⟩ = some (.int .u8 L[i].kind) ∧ w.cell? ⟨g, o + i * 19 + 1, none⟩ = some (.string L[i].name) ∧ w.cell? ⟨g, o + i * 19 + 2, none⟩ = some (.string L[i].cls) ∧ w.cell? ⟨g, o + i * 19 + 3, none⟩ = some (.string L[i].txt) ∧
    w.cell? ⟨g, o + i * 19 + 4, none⟩ = some (.int .i64 L[i].mw) ∧ w.cell? ⟨g, o + i * 19 + 5, none⟩ = some (.int .i64 L[i].mh) ∧ w.cell? ⟨g, o + i * 19 + 6, none⟩ = some (.int .i64 L[i].xw) ∧ w.cell? ⟨g, o + i * 19 + 7, none⟩ = some (.int .i64 L[i].xh) ∧ w.cell? ⟨g, o + i * 19 + 8, none⟩ = some (.int .i64 L[i].grow) ∧ w.cell? ⟨g, o + i * 19 + 9, none⟩ = some (.int .i64 L[i].order) ∧
    w.cell? ⟨g, o + i * 19 + 10, none⟩ = some (.bool L[i].column) ∧ w.cell? ⟨g, o + i * 19 + 11, none⟩ = some (.int .i64 L[i].columns) ∧ w.cell? ⟨g, o + i * 19 + 12, none⟩ = some (.int .i64 L[i].span) ∧ w.cell? ⟨g, o + i * 19 + 13, none⟩ = some (.int .i64 L[i].gap) ∧ w.cell? ⟨g, o + i * 19 + 14, none⟩ = some (.int .i64 L[i].ox) ∧ w.cell? ⟨g, o + i * 19 + 15, none⟩ = some (.int .i64 L[i].oy) ∧
    w.cell? ⟨g, o + i * 19 + 16, none⟩ = some (.bool L[i].hidden) ∧ w.cell? ⟨g, o + i * 19 + 17, none⟩ = some (.slice Aw L[i].wraps.length cw) ∧ w.cell? ⟨g, o + i * 19 + 18, none⟩ = some (.slice Ak L[i].kids.length ck) := by
  obtain ⟨g, o, hA, hg, hc⟩ := h (by omega)
  obtain ⟨Aw, cw, Ak, ck, h1, h2, h3, h4⟩ := hc i hi
  exact ⟨g, o, Aw, cw, Ak, ck, hA, hg, h2, h3, h1 0 _ rfl, h1 1 _ rfl, h1 2 _ rfl, h1 3 _ rfl, h1 4 _ rfl, h1 5 _ rfl, h1 6 _ rfl, h1 7 _ rfl, h1 8 _ rfl, h1 9 _ rfl, h1 10 _ rfl, h1 11 _ rfl, h1 12 _ rfl, h1 13 _ rfl, h1 14 _ rfl, h1 15 _ rfl, h1 16 _ rfl, h1 17 _ rfl, h1 18 _ rfl⟩

theorem NdsAt.rg {B : Nat} {w : World} {A : Option Addr} {L : List Nd} (h : NdsAt B w A L) {i : Nat} (hi : i < L.length) : ∃ g o Aw cw Ak ck, A = some ⟨g, o, none⟩ ∧ g < B ∧ At B w Aw (wrs L[i].wraps) ∧ At B w Ak (ints L[i].kids) ∧
    w.rangeAt g (o + i * 19) (ndC L[i] (.slice Aw L[i].wraps.length cw) (.slice Ak L[i].kids.length ck)) ∧ SlOk Aw L[i].wraps.length cw ∧ SlOk Ak L[i].kids.length ck := by
  obtain ⟨g, o, hA, hg, hc⟩ := h (by omega)
  obtain ⟨Aw, cw, Ak, ck, h1, h2, h3, h4⟩ := hc i hi
  exact ⟨g, o, Aw, cw, Ak, ck, hA, hg, h2, h3, h1, h4⟩
theorem ndC_len (n : Nd) (vw vk : Value) : (ndC n vw vk).length = 19 := rfl
theorem ndC_one (n : Nd) {Aw Ak : Option Addr} {lw cw lk ck : Nat} : (ndC n (.slice Aw lw cw) (.slice Ak lk ck)).toArray.all (·.oneCell') = true := by simp [ndC, Value.oneCell']
theorem info_node : (Tryd.prog.info? 39).map (·.size) = some 19 := by kernel_rfl
theorem store_node (w : World) (cs : List Value) (hl : cs.length = 19) (h1 : cs.toArray.all (·.oneCell') = true) : Sem.run Tryd.prog (storeCells ⟨w.heap.size, 0, none⟩ cs) (w.alloc (.cells #[.int .u8 0, .string { data := #[] }, .string { data := #[] }, .string { data := #[] }, .int .i64 0, .int .i64 0, .int .i64 0, .int .i64 0, .int .i64 0, .int .i64 0, .bool false, .int .i64 0, .int .i64 0, .int .i64 0, .int .i64 0, .int .i64 0, .bool false, .slice none 0 0, .slice none 0 0] 39)) = .ok () (w.alloc (.cells cs.toArray 39)) := by
  have h := run_storeVar_row (P := Tryd.prog) (w.alloc (.cells #[.int .u8 0, .string { data := #[] }, .string { data := #[] }, .string { data := #[] }, .int .i64 0, .int .i64 0, .int .i64 0, .int .i64 0, .int .i64 0, .int .i64 0, .bool false, .int .i64 0, .int .i64 0, .int .i64 0, .int .i64 0, .int .i64 0, .bool false, .slice none 0 0, .slice none 0 0] 39)) w.heap.size 39 39 _ cs.toArray (World.alloc_heap_new _ _) (by rw [List.size_toArray, hl]; exact info_node) (by simp [hl]) h1
  rw [World.setRow_alloc_new] at h
  rw [← h]
  obtain ⟨i, hi, hs⟩ := Option.map_eq_some_iff.1 info_node
  simp [storeVar, sizeOf, typeInfo, hi, hs, Value.cells, hl]
/-- A whole node is loaded from its box. -/
theorem load_box {ops : Array Oper} {rest : List Oper} {o : Oper} {a : Act} {w : World} {Q : Exit → Act → World → Prop} (hw : Region.wanted o (yielded ops a.tmps) = true) (x : Operand) (ho : o.op = .load 39 x) (b : Nat) (hx : a.eval x = .pointer (some ⟨b, 0, none⟩)) (cs : List Value) (hl : cs.length = 19)
    (hg : w.heap[b]? = some (.cells cs.toArray 39 (0, 0))) (h : wpList Tryd.prog ops Q rest (a.put o.dst (.agg cs.toArray)) w) : wpList Tryd.prog ops Q (o :: rest) a w :=
  BigFrame.wpList_want hw fun K hK => wp_load_row (P := Tryd.prog) 39 x ho b hx _ _ _ _ hg rfl rfl (by rw [List.size_toArray, hl]; exact info_node) (hK _ _ h)
/-! ### parents and depths, as the program finds them -/
def ppK (n i : Nat) : List Int → List Int → List Int → Option (List Int × List Int)
  | [], U, D => some (U, D)
  | k :: ks, U, D => if k ≤ i ∨ n ≤ k ∨ D.getD k.toNat 0 ≠ 0 then none else ppK n i ks (U.set k.toNat i) (D.set k.toNat (D.getD i 0 + 1))
def ppF (n : Nat) : Nat → List Nd → List Int → List Int → Option (List Int × List Int)
  | _, [], U, D => some (U, D)
  | i, nd :: r, U, D => if D.getD i 0 = 0 ∨ 64 < D.getD i 0 ∨ mayB nd = false then none else (ppK n i nd.kids U D).bind fun x => ppF n (i + 1) r x.1 x.2
def parE (L : List Nd) : Option (List Int × List Int) := if L.length < 1 ∨ 1024 < L.length then none else ppF L.length 0 L ((List.replicate L.length 0).set 0 (-1)) ((List.replicate L.length 0).set 0 1)
def ParP (w : World) (n : Nat) (R : Option (List Int × List Int)) (e : Ending) (w' : World) : Prop := Below w.heap.size w w' ∧
  match R with
  | none => e = .returned (.tuple #[.slice none 0 0, .slice none 0 0, .bool false])
  | some x => ∃ gu gd, w.heap.size ≤ gu ∧ w.heap.size ≤ gd ∧ gu ≠ gd ∧ e = .returned (.tuple #[.slice (some ⟨gu, 0, none⟩) n n, .slice (some ⟨gd, 0, none⟩) n n, .bool true]) ∧ Row1 w' gu x.1 ∧ Row1 w' gd x.2 ∧ x.1.length = n ∧ x.2.length = n
structure PaSt (w : World) (n gu gd : Nat) (U D : List Int) (wr : World) : Prop where
  bl : Below w.heap.size w wr
  ru : Row1 wr gu U
  rd : Row1 wr gd D
  lu : U.length = n
  ld : D.length = n
  bd : ∀ j, 0 ≤ D.getD j 0 ∧ D.getD j 0 ≤ 65
  lgu : w.heap.size < gu
  lgd : w.heap.size < gd
  ne : gu ≠ gd
theorem PaSt.on {w : World} {n gu gd : Nat} {U D : List Int} {wr w' : World} (h : PaSt w n gu gd U D wr) (hb : Below wr.heap.size wr w') : PaSt w n gu gd U D w' :=
  ⟨h.bl.trans (hb.mono h.bl.size), h.ru.on hb, h.rd.on hb, h.lu, h.ld, h.bd, h.lgu, h.lgd, h.ne⟩
end Go.Proofs.YtnkojoajcdhngaaDoor

/- Layer 8: parents, Check: the program's. -/
namespace Go.Proofs.YtnkojoajcdhngaaDoor
set_option linter.unusedVariables false
set_option linter.unusedSimpArgs false
set_option maxRecDepth 100000
open Go.RowKit Go.Shelf Go.Lib
set_option maxRecDepth 100000
set_option maxHeartbeats 16000000

theorem PaSt.set {w : World} {n gu gd : Nat} {U D : List Int} {wr : World} (h : PaSt w n gu gd U D wr) (k : Nat) (i v : Int) (hv : 0 ≤ v ∧ v ≤ 65) :
    PaSt w n gu gd (U.set k i) (D.set k v) ((wr.setCell ⟨gu, k, none⟩ (.int .i64 i)).setCell ⟨gd, k, none⟩ (.int .i64 v)) := by
  have h1 := h.lgu
  have h2 := h.lgd
  refine ⟨(h.bl.setCell (by show w.heap.size ≤ gu; omega) _).setCell (by show w.heap.size ≤ gd; omega) _, (h.ru.set k i).off h.ne, (h.rd.off (Ne.symm h.ne)).set k v, by rw [List.length_set]; exact h.lu, by rw [List.length_set]; exact h.ld, fun j => ?_, h.lgu, h.lgd, h.ne⟩
  have hb := h.bd j
  rw [List.getD_eq_getElem?_getD] at hb ⊢
  rw [List.getElem?_set]
  split
  · split
    · exact hv
    · simp
  · exact hb
theorem drop_cons {α : Type} {L : List α} {i : Nat} (h : i < L.length) : L.drop i = L[i] :: L.drop (i + 1) := List.drop_eq_getElem_cons h
theorem parents_any {B : Nat} (L : List Nd) (hok : ∀ n ∈ L, n.ok) (A : Option Addr) (c : Nat) (w : World) (hT : Tabs w) (hA : NdsAt B w A L) (hB : B ≤ w.heap.size) :
    Calls Tryd.prog 51 #[.agg #[.slice A L.length c]] w (ParP w L.length (parE L)) := by
  unfold parE
  by_cases h0 : L.length < 1
  · rw [if_pos (.inl h0)]
    have q1 : (L.length : Int) < 1 := by omega
    have q2 : L.length = 0 := by omega
    have hB1 := (Below.refl w.heap.size w).alloc (Nat.le_refl _) (.cells #[.slice A L.length c] 25)
    have HB1 := hid hB1
    clear hB1
    go_enter Tryd.func51, Tryd.ntmps51
    go_wp2
    refine bodyPost_ret (v := .tuple #[.slice none 0 0, .slice none 0 0, .bool false]) (by simp [results, Tryd.results51, go_sem, *]) rfl ⟨by first | exact HB1.out | (rw [q2] at HB1; exact HB1.out), rfl⟩
  by_cases h1 : 1024 < L.length
  · rw [if_pos (.inr h1)]
    have q0 : ¬ (L.length : Int) < 1 := by omega
    have q1 : (1024 : Int) < (L.length : Int) := by omega
    have hB1 := (Below.refl w.heap.size w).alloc (Nat.le_refl _) (.cells #[.slice A L.length c] 25)
    have HB1 := hid hB1
    clear hB1
    go_enter Tryd.func51, Tryd.ntmps51
    go_wp2
    refine bodyPost_ret (v := .tuple #[.slice none 0 0, .slice none 0 0, .bool false]) (by simp [results, Tryd.results51, go_sem, *]) rfl ⟨HB1.out, rfl⟩
  rw [if_neg (by omega)]
  obtain ⟨n, hn⟩ : ∃ n, L.length = n := ⟨_, rfl⟩
  obtain ⟨R, hR⟩ : ∃ R, ppF L.length 0 L ((List.replicate L.length 0).set 0 (-1)) ((List.replicate L.length 0).set 0 1) = R := ⟨_, rfl⟩
  rw [hR]
  rw [hn] at hR
  have HR := hid hR
  have HA := hid hA
  have HT := hid hT
  have HO := hid hok
  have HLN := hid hn
  have q0 : ¬ (n : Int) < 1 := by omega
  have q1 : ¬ (1024 : Int) < (n : Int) := by omega
  have q2 : ¬ n = 0 := by omega
  have q3 : ¬ n < 1 := by omega
  have q4 : ¬ 1024 < n := by omega
  have qn : (0 : Int) < (n : Int) := by omega
  have qn2 : 0 < n := by omega
  have hmk := make_row n (by omega)
  rw [hn]
  clear hR hA hT hok hn h0 h1
  obtain ⟨W, hW⟩ : ∃ W, w.alloc (.cells #[.slice A n c] 25) = W := ⟨_, rfl⟩
  have hBW : Below w.heap.size w W := by
    rw [← hW]
    exact (Below.refl _ _).alloc (Nat.le_refl _) _
  have hs : W.heap.size = w.heap.size + 1 := by rw [← hW]; simp
  have hc0 : W.heap[w.heap.size]? = some (.cells #[.slice A n c] 25 (0, 0)) := by
    rw [← hW]
    exact World.alloc_heap_new _ _
  have HW := hid hW
  have HBW := hid hBW
  have HC0 := hid hc0
  have k0 : W.cell? ⟨w.heap.size, 0, none⟩ = some (.slice A n c) := by rw [blk_cell hc0]; rfl
  clear hW hBW hc0
  go_enter Tryd.func51, Tryd.ntmps51
  go_upto_region 1 with fail
  rw [HW.out]
  go_upto_region 4 with fail
  go_cut [2, 3] from 19 to 22 (fun v2 v3 wx => ∃ gu gd, v2 = .slice (some ⟨gu, 0, none⟩) n n ∧ v3 = .slice (some ⟨gd, 0, none⟩) n n ∧ W.heap.size ≤ gu ∧ W.heap.size ≤ gd ∧ gu ≠ gd ∧ Below W.heap.size W wx ∧ Row1 wx gu (List.replicate n 0) ∧ Row1 wx gd (List.replicate n 0))
  case first =>
    have hmx := mixed
    go_region
    all_goals go_wp2
    all_goals go_meet
    all_goals
      obtain ⟨a1, a2, a3⟩ := two_allocs W (.cells (madeCells #[.int .i64 0] n) 3) (.cells (madeCells #[.int .i64 0] n) 3) hs
      rw [hs]
      first
        | exact ⟨w.heap.size + 1, w.heap.size + 1 + 1, rfl, rfl, by omega, by omega, by omega, a3, row_made a1, row_made a2⟩
        | exact ⟨w.heap.size + 1 + 1, w.heap.size + 1, rfl, rfl, by omega, by omega, by omega, a3, row_made a2, row_made a1⟩
  case rest =>
    obtain ⟨gu, gd, rfl, rfl, h1, h2, hne, hbx, r1, r2⟩ := hcut
    have hs2 := hbx.size
    have hc1 := (hbx.block _ (lt_of_block HC0.out)).trans HC0.out
    have p0 : PaSt w n gu gd (List.replicate n 0) (List.replicate n 0) wc := ⟨HBW.out.trans (hbx.mono (by omega)), r1, r2, List.length_replicate, List.length_replicate, fun j => by
      rw [List.getD_eq_getElem?_getD, List.getElem?_replicate]
      split <;> simp, by omega, by omega, hne⟩
    have c1 := r1.cell (k := 0) (by rw [List.length_replicate]; omega)
    have c2 := r2.cell (k := 0) (by rw [List.length_replicate]; omega)
    have f1 := r1.frozen 0
    have f2 := r2.frozen 0
    have l1 := r1.lt
    have l2 := r2.lt
    have p1 := p0.set 0 (-1) 1 (by decide)
    have hne2 := Ne.symm hne
    have hb1 : w.heap.size ≠ gu := by omega
    have hb2 : w.heap.size ≠ gd := by omega
    have hb3 := Ne.symm hb1
    have hb4 := Ne.symm hb2
    have c3 : wc.cell? ⟨w.heap.size, 0, none⟩ = some (.slice A n c) := by rw [blk_cell hc1]; rfl
    have hc2 : ((wc.setCell ⟨gu, 0, none⟩ (.int .i64 (-1))).setCell ⟨gd, 0, none⟩ (.int .i64 1)).heap[w.heap.size]? = some (.cells #[.slice A n c] 25 (0, 0)) := store_off (store_off hc1 hb1) hb2
    have P1 := hid p1
    have HC2 := hid hc2
    clear k0 hmk hbx r1 r2 p0 p1 hc1 hc2
    go_wp2
    go_loopg [2, 3, 30] n (fun gh v2 v3 v30 wr => ∃ (i : Nat) (U D : List Int), v2 = .slice (some ⟨gu, 0, none⟩) n n ∧ v3 = .slice (some ⟨gd, 0, none⟩) n n ∧ v30 = .int .i64 (i : Int) ∧ i ≤ n ∧ n - i ≤ gh ∧ Hid (ppF n i (L.drop i) U D = R) ∧ Hid (PaSt w n gu gd U D wr))
    case atStart => exact ⟨0, _, _, rfl, rfl, rfl, by omega, by omega, HR, P1⟩
    case round =>
      obtain ⟨i, U, D, rfl, rfl, rfl, hi, hgh, HF, HP⟩ := hrel
      have hbl := HP.out.bl
      have hsz := hbl.size
      by_cases hlt : i < n
      · have hli : (i : Int) < (n : Int) := by omega
        have hiL : i < L.length := by have := HLN.out; omega
        have hF := HF.out
        rw [drop_cons hiL, ppF] at hF
        obtain ⟨g, o, Aw, cw, Ak, ck, rfl, hg, hAw, hAk, hrg, _, _⟩ := (HA.out.below (hbl.mono hB)).rg hiL
        have hNd := HO.out _ (List.getElem_mem hiL)
        obtain ⟨nd, hnd⟩ : ∃ nd, L[i]'hiL = nd := ⟨_, rfl⟩
        rw [hnd] at hF hAw hAk hrg hNd
        have y0 : g < wr.heap.size := by omega
        have hbd := HP.out.bd i
        have d0 := HP.out.rd.cell (k := i) (by rw [HP.out.ld]; exact hlt)
        have ld0 := HP.out.rd.lt
        obtain ⟨di, hdi⟩ : ∃ di, D.getD i 0 = di := ⟨_, rfl⟩
        rw [hdi] at hF d0 hbd
        have HDI := hid hdi
        have hone : (Ending.returned (.tuple #[.slice none 0 0, .slice none 0 0, .bool false])) = (Ending.returned (.tuple #[.slice none 0 0, .slice none 0 0, .bool false])) := rfl
        clear hnd hdi hone
        have hNo : R = none → ∀ w9, Below w.heap.size w w9 → ParP w n R (.returned (.tuple #[.slice none 0 0, .slice none 0 0, .bool false])) w9 := fun h w9 hb => by
          rw [h]
          exact ⟨hb, rfl⟩
        have HNO := hid hNo
        obtain ⟨W8, hW8⟩ : ∃ W8, wr.alloc (.cells (ndC nd (.slice Aw nd.wraps.length cw) (.slice Ak nd.kids.length ck)).toArray 39) = W8 := ⟨_, rfl⟩
        have hb8 : Below wr.heap.size wr W8 := by
          rw [← hW8]
          exact (Below.refl _ _).alloc (Nat.le_refl _) _
        have hN8 : NBox wr.heap.size nd (.slice Aw nd.wraps.length cw) (.slice Ak nd.kids.length ck) W8 := by
          rw [← hW8]
          exact World.alloc_heap_new _ _
        have P8 := HP.out.on hb8
        have hBw : Below w.heap.size w W8 := P8.bl
        have CM := may_any nd hNd Aw Ak cw ck W8 (tabs_on HT.out hBw) (hAw.below (hb8.mono (by omega))) (by have := hb8.size; omega)
        obtain ⟨cs, hcs⟩ : ∃ cs, ndC nd (.slice Aw nd.wraps.length cw) (.slice Ak nd.kids.length ck) = cs := ⟨_, rfl⟩
        have hcl : cs.length = 19 := by rw [← hcs]; rfl
        have hc1 : cs.toArray.all (·.oneCell') = true := by rw [← hcs]; exact ndC_one nd
        rw [hcs] at hW8 hrg CM
        have HRG := hid hrg
        have HCS := hid hcs
        have HC1 := hid hc1
        have HF2 := hid hF
        have HW8 := hid hW8
        have HN8 := hid hN8
        have HP8 := hid P8
        have HCM := hid CM
        have HAK := hid (hAk.below (hb8.mono (show B ≤ wr.heap.size by omega)))
        have hgB : B ≤ W8.heap.size := by have := hb8.size; omega
        clear hF hNo hW8 hb8 hN8 P8 hBw CM hAw hAk HF HP hbl hrg hcs hc1
        go_upto_region 8 with fail
        go_cut [6, 7] from 32 to 34 (fun v6 v7 wx => v6 = .int .i64 (i : Int) ∧ v7 = .pointer (some ⟨wr.heap.size, 0, none⟩) ∧ wx = W8)
        case first =>
          have hst := store_node wr cs hcl HC1.out
          go_wp2_with (first
            | (refine wpList_load_mid rfl 39 (.tmp 33) rfl g (o + i * 19) rfl cs _ HRG.out rfl rfl (by rw [hcl]; exact info_node) ?_))
          go_meet
          exact ⟨rfl, rfl, HW8.out⟩
        case rest =>
        obtain ⟨rfl, rfl, rfl⟩ := hcut
        generalize wc = W8 at *
        clear d0 ld0 HW8
        have d0 := HP8.out.rd.cell (k := i) (by rw [HP8.out.ld]; exact hlt)
        rw [HDI.out] at d0
        have ld0 := HP8.out.rd.lt
        have hbx : W8.heap[wr.heap.size]? = some (.cells cs.toArray 39 (0, 0)) := by rw [← HCS.out]; exact HN8.out
        have HBX := hid hbx
        clear hbx
        by_cases hd0 : di = 0
        · have hR0 : R = none := by
            have := HF2.out
            rw [if_pos (.inl hd0)] at this
            exact this.symm
          have HFI := hid (HNO.out hR0 W8 HP8.out.bl)
          subst hd0
          clear hR0
          go_wp2
          refine bodyPost_ret (v := .tuple #[.slice none 0 0, .slice none 0 0, .bool false]) (by simp [results, Tryd.results51, go_sem, *]) rfl HFI.out
        by_cases hd1 : 64 < di
        · have hR0 : R = none := by
            have := HF2.out
            rw [if_pos (.inr (.inl hd1))] at this
            exact this.symm
          have HFI := hid (HNO.out hR0 W8 HP8.out.bl)
          have e0 : (di == 0) = false := beq_eq_false_iff_ne.2 hd0
          clear hR0
          go_wp2
          refine bodyPost_ret (v := .tuple #[.slice none 0 0, .slice none 0 0, .bool false]) (by simp [results, Tryd.results51, go_sem, *]) rfl HFI.out
        have e0 : (di == 0) = false := beq_eq_false_iff_ne.2 hd0
        have CM := HCM.out
        obtain ⟨mb, hmb⟩ : ∃ mb, mayB nd = mb := ⟨_, rfl⟩
        rw [hmb] at CM
        have HMB := hid hmb
        clear hmb
        go_wp2_with (refine load_box (by simp [Region.wanted, yielded]) (.tmp 7) rfl wr.heap.size rfl cs hcl HBX.out ?_)
        with_reducible refine CM.mono ?_
        rintro e w9 ⟨rfl, hb9⟩
        have HP9 := hid (HP8.out.on hb9)
        have HN9 := hid (HN8.out.on hb9)
        have HAK9 := hid (HAK.out.below (hb9.mono hgB))
        have hgB9 : B ≤ w9.heap.size := by have := hb9.size; omega
        clear CM d0 ld0 hb9 HN8 HP8 HAK HCM HBX
        cases mb with
        | false =>
          have hR0 : R = none := by
            have := HF2.out
            rw [if_pos (.inr (.inr HMB.out))] at this
            exact this.symm
          have HFI := hid (HNO.out hR0 w9 HP9.out.bl)
          clear hR0
          go_wp2
          refine bodyPost_ret (v := .tuple #[.slice none 0 0, .slice none 0 0, .bool false]) (by simp [results, Tryd.results51, go_sem, *]) rfl HFI.out
        | true =>
          have HF3 := hid (show (ppK n i (nd.kids.drop 0) U D).bind (fun x => ppF n (i + 1) (L.drop (i + 1)) x.1 x.2) = R by
            have := HF2.out
            rw [if_neg (by rw [HMB.out]; rintro (h | h | h) <;> first | exact hd0 h | omega | cases h)] at this
            rw [List.drop_zero]
            exact this)
          have o18 := HN9.out.cells.2.2.2.2.2.2.2.2.2.2.2.2.2.2.2.2.2.2
          have hkl := hNd.2.2.2.2.2.2
          clear HF2 HMB
          go_wp2
          clear o18
          go_loopg [2, 3, 55] nd.kids.length (fun gh2 v2 v3 v55 w2 => ∃ (j : Nat) (U D : List Int), v2 = .slice (some ⟨gu, 0, none⟩) n n ∧ v3 = .slice (some ⟨gd, 0, none⟩) n n ∧ v55 = .int .i64 (j : Int) ∧ j ≤ nd.kids.length ∧ nd.kids.length - j ≤ gh2 ∧ Hid ((ppK n i (nd.kids.drop j) U D).bind (fun x => ppF n (i + 1) (L.drop (i + 1)) x.1 x.2) = R) ∧ Hid (PaSt w n gu gd U D w2) ∧ Hid (D.getD i 0 = di) ∧ Hid (At B w2 Ak (ints nd.kids)) ∧ B ≤ w2.heap.size)
          case atStart => exact ⟨0, U, D, rfl, rfl, rfl, by omega, by omega, HF3, HP9, HDI, HAK9, hgB9⟩
          case round =>
            clear HF3 HP9 HDI HAK9 hgB9
            obtain ⟨j, U, D, rfl, rfl, rfl, hj, hgh2, HF3, HP9, HDI, HAK9, hgB9⟩ := hrel
            by_cases hlt2 : j < nd.kids.length
            · have hlj : (j : Int) < (nd.kids.length : Int) := by omega
              have hF := HF3.out
              rw [drop_cons hlt2, ppK, HDI.out] at hF
              obtain ⟨gk, ok, rfl, hgk, z0⟩ := HAK9.out.int hlt2
              have y2 : gk < wr.heap.size := by omega
              obtain ⟨k, hk⟩ : ∃ k, nd.kids[j]'hlt2 = k := ⟨_, rfl⟩
              rw [hk] at hF z0
              by_cases hk1 : k ≤ (i : Int)
              · have hR0 : R = none := by
                  rw [if_pos (.inl hk1)] at hF
                  exact hF.symm
                have HFI := hid (HNO.out hR0 wr HP9.out.bl)
                clear hR0 hF hk
                go_wp2
                refine bodyPost_ret (v := .tuple #[.slice none 0 0, .slice none 0 0, .bool false]) (by simp [results, Tryd.results51, go_sem, *]) rfl HFI.out
              by_cases hk2 : (n : Int) ≤ k
              · have hR0 : R = none := by
                  rw [if_pos (.inr (.inl hk2))] at hF
                  exact hF.symm
                have HFI := hid (HNO.out hR0 wr HP9.out.bl)
                clear hR0 hF hk
                go_wp2
                refine bodyPost_ret (v := .tuple #[.slice none 0 0, .slice none 0 0, .bool false]) (by simp [results, Tryd.results51, go_sem, *]) rfl HFI.out
              obtain ⟨kn, rfl⟩ : ∃ kn : Nat, k = (kn : Int) := ⟨k.toNat, by omega⟩
              rw [Int.toNat_natCast] at hF
              have hkn : kn < n := by omega
              have hki : i < kn := by omega
              have e1 := HP9.out.rd.cell (k := kn) (by rw [HP9.out.ld]; exact hkn)
              have lgd2 := HP9.out.rd.lt
              obtain ⟨dk, hdk⟩ : ∃ dk, D.getD kn 0 = dk := ⟨_, rfl⟩
              rw [hdk] at hF e1
              by_cases hk3 : dk = 0
              · have hF' : (ppK n i (nd.kids.drop (j + 1)) (U.set kn i) (D.set kn (di + 1))).bind (fun x => ppF n (i + 1) (L.drop (i + 1)) x.1 x.2) = R := by
                  rw [if_neg (by rintro (h | h | h) <;> first | omega | exact h hk3)] at hF
                  exact hF
                have HF4 := hid hF'
                have PS := HP9.out.set kn (i : Int) (di + 1) ⟨by omega, by omega⟩
                have HPS := hid PS
                have HD4 := hid (show (D.set kn (di + 1)).getD i 0 = di by
                  rw [List.getD_eq_getElem?_getD, List.getElem?_set_ne (by omega), ← List.getD_eq_getElem?_getD]
                  exact HDI.out)
                have hst : Below w.heap.size wr ((wr.setCell ⟨gu, kn, none⟩ (.int .i64 (i : Int))).setCell ⟨gd, kn, none⟩ (.int .i64 (di + 1))) := ((Below.refl _ _).setCell (by show w.heap.size ≤ gu; have := HP9.out.lgu; omega) _).setCell (by show w.heap.size ≤ gd; have := HP9.out.lgd; omega) _
                have HA4 := hid (HAK9.out.below (hst.mono hB))
                have d1 := HP9.out.rd.cell (k := i) (by rw [HP9.out.ld]; exact hlt)
                rw [HDI.out] at d1
                have e2 := HP9.out.ru.cell (k := kn) (by rw [HP9.out.lu]; exact hkn)
                have lgu2 := HP9.out.ru.lt
                have ff1 := HP9.out.ru.frozen kn
                have ff2 := HP9.out.rd.frozen kn
                subst hk3
                clear hF hF' PS hst hk hdk
                go_wp2
                go_roundg (nd.kids.length - (j + 1))
                case measure => omega
                case rel => exact ⟨j + 1, _, _, rfl, rfl, by go_num, by omega, by omega, HF4, HPS, HD4, HA4, by simpa using hgB9⟩
              · have hR0 : R = none := by
                  rw [if_pos (.inr (.inr hk3))] at hF
                  exact hF.symm
                have HFI := hid (HNO.out hR0 wr HP9.out.bl)
                have e3 : (dk == 0) = false := beq_eq_false_iff_ne.2 hk3
                have e4 : (dk != 0) = true := by unfold bne; rw [e3]; rfl
                clear hR0 hF hk hdk
                go_wp2
                refine bodyPost_ret (v := .tuple #[.slice none 0 0, .slice none 0 0, .bool false]) (by simp [results, Tryd.results51, go_sem, *]) rfl HFI.out
            · have hF := HF3.out
              rw [List.drop_eq_nil_of_le (by omega)] at hF
              have HF4 := hid (show ppF n (i + 1) (L.drop (i + 1)) U D = R from hF)
              have q : ¬ (j : Int) < (nd.kids.length : Int) := by omega
              clear hF
              go_wp2
              go_roundg (n - (i + 1))
              case measure => omega
              case rel => exact ⟨i + 1, U, D, rfl, rfl, by go_num, by omega, by omega, HF4, HP9⟩
      · have hF := HF.out
        rw [List.drop_eq_nil_of_le (by have := HLN.out; omega)] at hF
        have q : ¬ (i : Int) < (n : Int) := by omega
        have hFR : R = some (U, D) := hF.symm
        subst hFR
        have hfin : ParP w n (some (U, D)) (.returned (.tuple #[.slice (some ⟨gu, 0, none⟩) n n, .slice (some ⟨gd, 0, none⟩) n n, .bool true])) wr :=
          ⟨hbl, gu, gd, by omega, by omega, hne, rfl, HP.out.ru, HP.out.rd, HP.out.lu, HP.out.ld⟩
        have HFI := hid hfin
        clear hF hfin c1 c2 f1 f2
        go_wp2
        refine bodyPost_ret (v := .tuple #[.slice (some ⟨gu, 0, none⟩) n n, .slice (some ⟨gd, 0, none⟩) n n, .bool true]) (by simp [results, Tryd.results51, go_sem, *]) rfl HFI.out
end Go.Proofs.YtnkojoajcdhngaaDoor

/- Layer 8: Check, asked: the program's. -/
namespace Go.Proofs.YtnkojoajcdhngaaDoor
set_option linter.unusedVariables false
set_option linter.unusedSimpArgs false
set_option maxRecDepth 100000
open Go.RowKit Go.Shelf Go.Lib
set_option maxRecDepth 100000
set_option maxHeartbeats 8000000

/-- May a spec be? -/
def chkB (L : List Nd) : Bool := (parE L).isSome
def chkC (L : List Nd) : Int := if chkB L then 0 else 6
theorem TCheck_any {B : Nat} (L : List Nd) (hok : ∀ n ∈ L, n.ok) (A : Option Addr) (c : Nat) (w : World) (hT : Tabs w) (hA : NdsAt B w A L) (hB : B ≤ w.heap.size) :
    Calls Tryd.prog 12 #[.agg #[.slice A L.length c]] w fun e w' => e = .returned (.int .i64 (chkC L)) ∧ Below w.heap.size w w' := by
  have hB1 := (Below.refl w.heap.size w).alloc (Nat.le_refl _) (.cells #[.slice A L.length c] 25)
  have C := parents_any L hok A c (w.alloc (.cells #[.slice A L.length c] 25)) (tabs_on hT hB1) (hA.below (hB1.mono hB)) (by have := hB1.size; omega)
  unfold chkC chkB
  obtain ⟨R, hR⟩ : ∃ R, parE L = R := ⟨_, rfl⟩
  rw [hR] at C ⊢
  generalize L.length = n at *
  have HB1 := hid hB1
  clear hR hA hT hok hB1
  go_enter Tryd.func12, Tryd.ntmps12
  go_wp2_with fail
  with_reducible refine C.mono ?_
  intro e w1 hp
  have hb1 := HB1.out.trans (hp.1.mono HB1.out.size)
  cases R with
  | none =>
    have he := hp.2
    simp only at he
    subst he
    clear C hp
    go_wp2
    refine bodyPost_ret (v := .int .i64 6) (by simp [results, Tryd.results12, go_sem, *]) rfl ⟨rfl, hb1⟩
  | some x =>
    obtain ⟨gu, gd, _, _, _, rfl, _⟩ := hp.2
    clear C hp
    go_wp2
    refine bodyPost_ret (v := .int .i64 0) (by simp [results, Tryd.results12, go_sem, *]) rfl ⟨rfl, hb1⟩
def outB (n : Nat) (k : Int) : Bool := decide (k < 0) || decide ((n : Int) ≤ k)
def askC (L : List Nd) (K : List Int) : Int := if chkB L then (if K.any (outB L.length) then 7 else 0) else 6
theorem any_drop {α : Type} (p : α → Bool) (l : List α) {k : Nat} (h : k < l.length) : (l.drop k).any p = (p l[k] || (l.drop (k + 1)).any p) := by
  rw [List.drop_eq_getElem_cons h, List.any_cons]
theorem asked_any {B : Nat} (L : List Nd) (hok : ∀ n ∈ L, n.ok) (A : Option Addr) (c : Nat) (w : World) (hT : Tabs w) (hA : NdsAt B w A L) (hB : B ≤ w.heap.size) (K : List Int) (hK : K.length ≤ 1000000) (A2 : Option Addr) (c2 : Nat) (hA2 : At w.heap.size w A2 (ints K)) (hl : L.length ≤ 9000000000000000) :
    Calls Tryd.prog 52 #[.agg #[.slice A L.length c], .slice A2 K.length c2] w fun e w' => e = .returned (.int .i64 (askC L K)) ∧ Below w.heap.size w w' := by
  obtain ⟨W, hW⟩ : ∃ W, w.alloc (.cells #[.slice A L.length c] 25) = W := ⟨_, rfl⟩
  have hBW : Below w.heap.size w W := by
    rw [← hW]
    exact (Below.refl _ _).alloc (Nat.le_refl _) _
  have hc0 : W.heap[w.heap.size]? = some (.cells #[.slice A L.length c] 25 (0, 0)) := by
    rw [← hW]
    exact World.alloc_heap_new _ _
  have C := TCheck_any L hok A c W (tabs_on hT hBW) (hA.below (hBW.mono hB)) (by have := hBW.size; omega)
  have HW := hid hW
  have HBW := hid hBW
  have HC0 := hid hc0
  have HA2 := hid hA2
  have k0 : W.cell? ⟨w.heap.size, 0, none⟩ = some (.slice A L.length c) := by rw [blk_cell hc0]; rfl
  unfold chkC at C
  unfold askC
  obtain ⟨R, hR⟩ : ∃ R, K.any (outB L.length) = R := ⟨_, rfl⟩
  rw [hR]
  have HR := hid hR
  clear hR hA hT hok hW hBW hc0 hA2
  generalize chkB L = X at *
  generalize L.length = n at *
  cases X with
  | false =>
    rw [if_neg (by decide)] at C ⊢
    go_enter Tryd.func52, Tryd.ntmps52
    go_upto_region 1 with fail
    rw [HW.out]
    go_wp2_with fail
    with_reducible refine C.mono ?_
    rintro e w1 ⟨rfl, hb1⟩
    clear C
    go_wp2
    refine bodyPost_ret (v := .int .i64 6) (by simp [results, Tryd.results52, go_sem, *]) rfl ⟨rfl, HBW.out.trans (hb1.mono HBW.out.size)⟩
  | true =>
    rw [if_pos rfl] at C ⊢
    go_enter Tryd.func52, Tryd.ntmps52
    go_upto_region 1 with fail
    rw [HW.out]
    go_wp2_with fail
    with_reducible refine C.mono ?_
    rintro e w1 ⟨rfl, hb1⟩
    have hB1 := HBW.out.trans (hb1.mono HBW.out.size)
    have hc1 := (hb1.block _ (lt_of_block HC0.out)).trans HC0.out
    have k1 : w1.cell? ⟨w.heap.size, 0, none⟩ = some (.slice A n c) := by rw [blk_cell hc1]; rfl
    have lk1 := lt_of_block hc1
    have hA1 := HA2.out.below hB1
    have hs1 := hB1.size
    have HB1 := hid hB1
    have HA1 := hid hA1
    clear C k0 hc1 hb1 hB1 hA1
    go_wp2
    go_loopg [15] K.length (fun gh v15 wr => ∃ i : Nat, v15 = .int .i64 (i : Int) ∧ i ≤ K.length ∧ K.length - i ≤ gh ∧ Hid ((K.drop i).any (outB n) = R) ∧ wr = w1)
    case atStart => exact ⟨0, rfl, by omega, by omega, HR, rfl⟩
    case round =>
      obtain ⟨i, rfl, hi, hgh, H1, rfl⟩ := hrel
      by_cases hlt : i < K.length
      · have hli : (i : Int) < (K.length : Int) := by omega
        have h1 := H1.out
        rw [any_drop _ _ hlt] at h1
        obtain ⟨g, o, rfl, hg, o0⟩ := HA1.out.int hlt
        have y0 : g < wr.heap.size := by omega
        obtain ⟨z, hz⟩ : ∃ z, K[i] = z := ⟨_, rfl⟩
        rw [hz] at o0 h1
        by_cases hf : z < 0
        · have hr : R = true := by
            rw [← h1]
            unfold outB
            rw [decide_eq_true hf]
            rfl
          subst hr
          clear h1 hz
          go_wp2
          refine bodyPost_ret (v := .int .i64 7) (by simp [results, Tryd.results52, go_sem, *]) rfl ⟨rfl, HB1.out⟩
        by_cases hf2 : (n : Int) ≤ z
        · have hr : R = true := by
            rw [← h1]
            unfold outB
            rw [decide_eq_true hf2, Bool.or_true]
            rfl
          subst hr
          clear h1 hz
          go_wp2
          refine bodyPost_ret (v := .int .i64 7) (by simp [results, Tryd.results52, go_sem, *]) rfl ⟨rfl, HB1.out⟩
        have H2 := hid (show (K.drop (i + 1)).any (outB n) = R by
          rw [← h1]
          unfold outB
          rw [decide_eq_false hf, decide_eq_false hf2]
          rfl)
        clear h1 hz
        go_wp2
        go_roundg (K.length - (i + 1))
        case measure => omega
        case rel => exact ⟨i + 1, by go_num, by omega, by omega, H2, rfl⟩
      · have h1 := H1.out
        rw [List.drop_eq_nil_of_le (by omega)] at h1
        have hr : R = false := h1.symm
        subst hr
        have q : ¬ (i : Int) < (K.length : Int) := by omega
        clear h1
        go_wp2
        refine bodyPost_ret (v := .int .i64 0) (by simp [results, Tryd.results52, go_sem, *]) rfl ⟨rfl, HB1.out⟩
end Go.Proofs.YtnkojoajcdhngaaDoor

/- Layer 8: Clone; the kids of all nodes, copied. -/
namespace Go.Proofs.YtnkojoajcdhngaaDoor
set_option linter.unusedVariables false
set_option linter.unusedSimpArgs false
set_option maxRecDepth 100000
open Go.RowKit Go.Shelf Go.Lib
set_option maxRecDepth 100000
set_option maxHeartbeats 8000000

/-- A row of one's own, or nothing. -/
def CloP (w : World) (K : List Int) (e : Ending) (w' : World) : Prop := ∃ v, e = .returned v ∧ w'.ownsRow w.heap.size 3 1 v K.length (ints K) ∧ Below w.heap.size w w'
theorem own_empty {w : World} {base g : Nat} (hb : base ≤ g) (h : w.heap[g]? = some (.cells #[] 3 (0, 0))) : w.ownsRow base 3 1 (.slice (some ⟨g, 0, none⟩) 0 0) 0 [] :=
  ⟨rfl, .inr ⟨g, 0, #[], rfl, hb, h, Nat.le_refl _, by decide, rfl, rfl⟩⟩
theorem Clone_any {B : Nat} (K : List Int) (A : Option Addr) (c : Nat) (w : World) (hA : At B w A (ints K)) (hs : SlOk A K.length c) (hB : B ≤ w.heap.size) (hl : K.length ≤ 9000000000000) :
    Calls Tryd.prog 89 #[.slice A K.length c] w (CloP w K) := by
  cases A with
  | none =>
    obtain ⟨h1, h2⟩ := hs rfl
    have hk : K = [] := List.eq_nil_of_length_eq_zero h1
    subst hk
    subst h2
    have HF := hid (show CloP w [] (.returned (.slice none 0 0)) w from ⟨_, rfl, World.ownsRow_nil _ _ _ _, Below.refl _ _⟩)
    clear hA hs
    have he : ∀ w : World, (binOp .eql 37 (.slice none 0 0) (.slice none 0 0)).run Tryd.prog w = .ok (.bool true) w := fun _ => rfl
    simp only [List.length_nil]
    go_enter Tryd.func89, Tryd.ntmps89
    go_wp2
    refine bodyPost_ret (v := .slice none 0 0) (by simp [results, Tryd.results89, go_sem, *]) rfl HF.out
  | some a =>
    obtain ⟨i0, hi, hz0, hz1, hz2⟩ := info_parts info_int
    have hb1 := (Below.refl w.heap.size w).alloc (Nat.le_refl _) (.cells #[] 3)
    have hA1 := hA.below (hb1.mono hB)
    have ho : (w.alloc (.cells #[] 3)).ownsRow w.heap.size 3 1 (.slice (some ⟨w.heap.size, 0, none⟩) 0 0) 0 [] := own_empty (Nat.le_refl _) (World.alloc_heap_new _ _)
    have HA1 := hid hA1
    have HO := hid ho
    have HB1 := hid hb1
    clear hA hs hA1 ho hb1
    have he : ∀ w : World, (binOp .eql 37 (.slice (some a) K.length c) (.slice none 0 0)).run Tryd.prog w = .ok (.bool false) w := fun _ => rfl
    go_enter Tryd.func89, Tryd.ntmps89
    go_wp2_with (first | (at_builtin; refine append_many Tryd.underlying37 hi hz0 hz1 hz2 rfl (by decide) rfl (.tmp 5) (.tmp 6) rfl w.heap.size (.slice (some ⟨w.heap.size, 0, none⟩) 0 0) 0 [] (some a) K.length c B (ints K) rfl rfl (fun h => by cases h) HO.out HA1.out (by simp [ints]) (ints_one K) ?_ ?_ (by simp) ?_))
    · unfold maxLen; omega
    · omega
    intro v2 w2 hown2 hg2
    have hb2 := HB1.out.grown hg2 (by have := HB1.out.size; omega) (own_ge HO.out)
    have hown3 : w2.ownsRow w.heap.size 3 1 v2 K.length (ints K) := by simpa using hown2
    have HF := hid (show CloP w K (.returned v2) w2 from ⟨v2, rfl, hown3, hb2⟩)
    clear hown2 hown3 hg2
    go_wp2
    refine bodyPost_ret (v := v2) (by simp [results, Tryd.results89, go_sem, *]) rfl HF.out
end Go.Proofs.YtnkojoajcdhngaaDoor

/- Layer 8: the kids of all nodes, copied: rows of rows. -/
namespace Go.Proofs.YtnkojoajcdhngaaDoor
set_option linter.unusedVariables false
set_option linter.unusedSimpArgs false
set_option maxRecDepth 100000
open Go.RowKit Go.Shelf Go.Lib
set_option maxRecDepth 100000
set_option maxHeartbeats 16000000

/-- A row of slices at the head of a block. -/
def RowsHd (w : World) (gl : Nat) (vs : List Value) : Prop := ∃ cur : Array Value, w.heap[gl]? = some (.cells cur 37 (0, 0)) ∧ cur.toList.take vs.length = vs
theorem RowsHd.lt {w : World} {gl : Nat} {vs : List Value} (h : RowsHd w gl vs) : gl < w.heap.size := lt_of_block h.choose_spec.1
theorem RowsHd.same {w w' : World} {gl : Nat} {vs : List Value} (h : RowsHd w gl vs) (e : w'.heap[gl]? = w.heap[gl]?) : RowsHd w' gl vs := ⟨h.choose, e.trans h.choose_spec.1, h.choose_spec.2⟩
theorem RowsHd.cell {w : World} {gl : Nat} {vs : List Value} (h : RowsHd w gl vs) {i : Nat} {v : Value} (hv : vs[i]? = some v) : w.cell? ⟨gl, i, none⟩ = some v := by
  obtain ⟨cur, h1, h2⟩ := h
  rw [← h2, List.getElem?_take] at hv
  split at hv
  · rw [blk_cell h1]
    simpa using hv
  · cases hv
theorem RowsHd.froz {w : World} {gl : Nat} {vs : List Value} (h : RowsHd w gl vs) (i : Nat) : w.frozen? ⟨gl, i, none⟩ = false := blk_frozen h.choose_spec.1 i
theorem RowsHd.set {w : World} {gl : Nat} {vs : List Value} (h : RowsHd w gl vs) (i : Nat) (v : Value) : RowsHd (w.setCell ⟨gl, i, none⟩ v) gl (vs.set i v) := by
  obtain ⟨cur, h1, h2⟩ := h
  refine ⟨cur.setIfInBounds i v, store_in h1, ?_⟩
  rw [List.length_set, Array.toList_setIfInBounds, List.take_set, h2]
/-- A row of rows of one's own, each apart. -/
structure Rws (base gl : Nat) (K : Nat → List Int) (vs : List Value) (w : World) : Prop where
  hd : RowsHd w gl vs
  ow : ∀ (i : Nat) (v : Value), vs[i]? = some v → w.ownsRow base 3 1 v (K i).length (ints (K i))
  ap : ∀ (i j : Nat) (v u : Value) (b : Nat), vs[i]? = some v → vs[j]? = some u → i ≠ j → v.ownBlock = some b → u.ownBlock ≠ some b
  ne : ∀ (i : Nat) (v : Value) (b : Nat), vs[i]? = some v → v.ownBlock = some b → b ≠ gl
  ge : base ≤ gl
theorem Rws.on {base gl : Nat} {K : Nat → List Int} {vs : List Value} {w w' : World} (h : Rws base gl K vs w) (hb : Below w.heap.size w w') : Rws base gl K vs w' :=
  ⟨h.hd.same (hb.block gl h.hd.lt), fun i v hv => own_below' (h.ow i v hv) hb, h.ap, h.ne, h.ge⟩
theorem Rws.lt {base gl : Nat} {K : Nat → List Int} {vs : List Value} {w : World} (h : Rws base gl K vs w) : gl < w.heap.size := h.hd.lt
theorem Rws.set {base gl : Nat} {K : Nat → List Int} {vs : List Value} {w : World} (h : Rws base gl K vs w) (i : Nat) (v : Value) (k : List Int) {b : Nat} (hb : base ≤ b) (hv : w.ownsRow b 3 1 v k.length (ints k)) (hnew : ∀ (j : Nat) (u : Value) (c : Nat), vs[j]? = some u → u.ownBlock = some c → c < b) (hgl : gl < b) :
    Rws base gl (fun j => if j = i then k else K j) (vs.set i v) (w.setCell ⟨gl, i, none⟩ v) := by
  have hge := own_ge hv
  have hvg : v.ownBlock ≠ some gl := fun e => by have := hge gl e; omega
  refine ⟨h.hd.set i v, fun j u hu => ?_, fun j l u u' c hu hu' hne hc => ?_, fun j u c hu hc => ?_, h.ge⟩
  · rw [List.getElem?_set] at hu
    split at hu
    · rename_i e
      subst e
      split at hu
      · cases hu
        rw [if_pos rfl]
        exact own_off (own_mono hv hb) hvg
      · cases hu
    · rename_i e
      rw [if_neg (fun e' => e e'.symm)]
      exact own_off (h.ow j u hu) (fun e' => h.ne j u gl hu e' rfl)
  · rw [List.getElem?_set] at hu hu'
    split at hu
    · rename_i e
      subst e
      rw [if_neg (fun e' => hne e')] at hu'
      split at hu
      · cases hu
        intro e'
        have h3 := hge c hc
        have h4 := hnew l u' c hu' e'
        omega
      · cases hu
    · split at hu'
      · rename_i e
        subst e
        split at hu'
        · cases hu'
          intro e'
          have h3 := hge c e'
          have h4 := hnew j u c hu hc
          omega
        · cases hu'
      · exact h.ap j l u u' c hu hu' hne hc
  · rw [List.getElem?_set] at hu
    split at hu
    · split at hu
      · cases hu
        intro e
        exact hvg (by rw [hc, e])
      · cases hu
    · exact h.ne j u c hu hc
/-- The kids of the i-th node, up to m. -/
def kidF (L : List Nd) (m : Nat) (i : Nat) : List Int := if i < m then ((L[i]?).map Nd.kids).getD [] else []
theorem make_rows (n : Nat) (hn : n ≤ 1000000) (w : World) : (Instr.makeSlice 79 (.int .i64 (n : Int)) (.int .i64 (n : Int))).run Tryd.prog w = .ok (.slice (some ⟨w.heap.size, 0, none⟩) n n) (w.alloc (.cells (madeCells #[.slice none 0 0] n) 37)) :=
  run_make_row' 79 37 (.slice none 0 0) 24 Tryd.underlying79 (by kernel_rfl) rfl .i64 .i64 n (by omega) (by omega) w
def KidsP (w : World) (L : List Nd) (e : Ending) (w' : World) : Prop := ∃ (gl : Nat) (vs : List Value), e = .returned (.slice (some ⟨gl, 0, none⟩) L.length L.length) ∧ vs.length = L.length ∧ Rws w.heap.size gl (kidF L L.length) vs w' ∧ Below w.heap.size w w'
/-- .. and the row of rows is one's own. -/
def KidsO (w : World) (L : List Nd) (e : Ending) (w' : World) : Prop := ∃ (gl : Nat) (vs : List Value), e = .returned (.slice (some ⟨gl, 0, none⟩) L.length L.length) ∧ vs.length = L.length ∧ Rws w.heap.size gl (kidF L L.length) vs w' ∧ Below w.heap.size w w' ∧ w'.ownsRow w.heap.size 37 1 (.slice (some ⟨gl, 0, none⟩) L.length L.length) L.length vs
theorem RowsHd.own {w : World} {gl b n : Nat} {vs : List Value} (h : RowsHd w gl vs) (hn : vs.length = n) (hb : b ≤ gl) (hm : n ≤ 1000000) (hs : ∃ cur : Array Value, w.heap[gl]? = some (.cells cur 37 (0, 0)) ∧ cur.size = n) : w.ownsRow b 37 1 (.slice (some ⟨gl, 0, none⟩) n n) n vs := by
  obtain ⟨cur, h1, h2⟩ := h
  obtain ⟨cur2, h3, h4⟩ := hs
  rw [h1] at h3
  injection h3 with h3
  injection h3 with h3
  subst h3
  exact ⟨by omega, .inr ⟨gl, n, cur, rfl, hb, h1, Nat.le_refl _, by unfold maxLen; omega, by omega, by rw [Nat.mul_one, ← hn]; exact h2⟩⟩
theorem kids_own {B : Nat} (L : List Nd) (hok : ∀ n ∈ L, n.ok) (A : Option Addr) (c : Nat) (w : World) (hA : NdsAt B w A L) (hB : B ≤ w.heap.size) (hl : L.length ≤ 1000000) :
    Calls Tryd.prog 53 #[.agg #[.slice A L.length c]] w (KidsO w L) := by
  obtain ⟨n, hn⟩ : ∃ n, L.length = n := ⟨_, rfl⟩
  have HLN := hid hn
  have HA := hid hA
  have HO := hid hok
  have hmk := make_rows n (by omega)
  rw [hn]
  obtain ⟨W, hW⟩ : ∃ W, w.alloc (.cells #[.slice A n c] 25) = W := ⟨_, rfl⟩
  have hBW : Below w.heap.size w W := by
    rw [← hW]
    exact (Below.refl _ _).alloc (Nat.le_refl _) _
  have hs : W.heap.size = w.heap.size + 1 := by rw [← hW]; simp
  have hc0 : W.heap[w.heap.size]? = some (.cells #[.slice A n c] 25 (0, 0)) := by
    rw [← hW]
    exact World.alloc_heap_new _ _
  have k0 : W.cell? ⟨w.heap.size, 0, none⟩ = some (.slice A n c) := by rw [blk_cell hc0]; rfl
  obtain ⟨V, hV⟩ : ∃ V, W.alloc (.cells (madeCells #[.slice none 0 0] n) 37) = V := ⟨_, rfl⟩
  have hBV : Below W.heap.size W V := by
    rw [← hV]
    exact (Below.refl _ _).alloc (Nat.le_refl _) _
  have hc1 := (hBV.block _ (lt_of_block hc0)).trans hc0
  have k1 : V.cell? ⟨w.heap.size, 0, none⟩ = some (.slice A n c) := by rw [blk_cell hc1]; rfl
  have lk1 := lt_of_block hc1
  have em : (madeCells #[Value.slice none 0 0] n).toList = List.replicate n (.slice none 0 0) := by simp [toList_madeCells_one]
  have hR : Rws w.heap.size W.heap.size (kidF L 0) (List.replicate n (.slice none 0 0)) V := by
    refine ⟨?_, fun i v hv => ?_, fun i j v u b hv hu hne hb => ?_, fun i v b hv hb => ?_, by omega⟩
    · exact ⟨_, by rw [← hV, World.alloc_heap_new], by rw [em, List.length_replicate, List.take_of_length_le (by simp)]⟩
    · rw [List.getElem?_replicate] at hv
      split at hv
      · cases hv
        exact World.ownsRow_nil _ _ _ _
      · cases hv
    · rw [List.getElem?_replicate] at hv
      split at hv
      · cases hv
        cases hb
      · cases hv
    · rw [List.getElem?_replicate] at hv
      split at hv
      · cases hv
        cases hb
      · cases hv
  have hBV2 := hBW.trans (hBV.mono hBW.size)
  have HW := hid hW
  have HV := hid hV
  have HR := hid hR
  have HBV := hid hBV2
  have HCU := hid (show ∃ cur : Array Value, V.heap[W.heap.size]? = some (.cells cur 37 (0, 0)) ∧ cur.size = n from ⟨_, by rw [← hV, World.alloc_heap_new], by have := congrArg List.length em; simpa using this⟩)
  have hgl : w.heap.size < W.heap.size := by omega
  have hci : (n : Int) ≤ 1000000 := by omega
  clear hn hA hok hW hBW hc0 hV hBV hc1 em hR hBV2
  go_enter Tryd.func53, Tryd.ntmps53
  go_upto_region 1 with fail
  rw [HW.out]
  go_upto_region 2 with fail
  rw [HV.out]
  rw [hs] at HR hgl HCU
  obtain ⟨gl, hgle⟩ : ∃ gl, w.heap.size + 1 = gl := ⟨_, rfl⟩
  rw [hgle] at HR hgl HCU ⊢
  clear k0 hmk HW HV
  go_wp2
  go_loopg [13] n (fun gh v13 wr => ∃ (i : Nat) (vs : List Value), v13 = .int .i64 (i : Int) ∧ i ≤ n ∧ n - i ≤ gh ∧ vs.length = n ∧ Hid (Rws w.heap.size gl (kidF L i) vs wr) ∧ Hid (Below w.heap.size w wr) ∧ Hid (∃ cur : Array Value, wr.heap[gl]? = some (.cells cur 37 (0, 0)) ∧ cur.size = n))
  case atStart => exact ⟨0, _, rfl, by omega, by omega, List.length_replicate, HR, HBV, HCU⟩
  case round =>
    obtain ⟨i, vs, rfl, hi, hgh, hvl, HRr, HBr, HCr⟩ := hrel
    have hsz := HBr.out.size
    by_cases hlt : i < n
    · have hli : (i : Int) < (n : Int) := by omega
      have hiL : i < L.length := by have := HLN.out; omega
      obtain ⟨g, o, Aw, cw, Ak, ck, rfl, hg, _, hAk, hrg, _, hsk⟩ := (HA.out.below (HBr.out.mono hB)).rg hiL
      have hNd := HO.out _ (List.getElem_mem hiL)
      obtain ⟨nd, hnd⟩ : ∃ nd, L[i]'hiL = nd := ⟨_, rfl⟩
      rw [hnd] at hAk hrg hNd hsk
      have hkf : ∀ j, (if j = i then nd.kids else kidF L i j) = kidF L (i + 1) j := by
        intro j
        unfold kidF
        by_cases e : j = i
        · subst e
          rw [if_pos rfl, if_pos (by omega), List.getElem?_eq_getElem hiL, hnd]
          rfl
        · rw [if_neg e]
          by_cases e2 : j < i
          · rw [if_pos e2, if_pos (by omega)]
          · rw [if_neg e2, if_neg (by omega)]
      have HKF := hid (funext hkf)
      have y0 : g < wr.heap.size := by omega
      obtain ⟨W8, hW8⟩ : ∃ W8, wr.alloc (.cells (ndC nd (.slice Aw nd.wraps.length cw) (.slice Ak nd.kids.length ck)).toArray 39) = W8 := ⟨_, rfl⟩
      have hb8 : Below wr.heap.size wr W8 := by
        rw [← hW8]
        exact (Below.refl _ _).alloc (Nat.le_refl _) _
      have hN8 : NBox wr.heap.size nd (.slice Aw nd.wraps.length cw) (.slice Ak nd.kids.length ck) W8 := by
        rw [← hW8]
        exact World.alloc_heap_new _ _
      have o18 := hN8.cells.2.2.2.2.2.2.2.2.2.2.2.2.2.2.2.2.2.2
      have ln8 := lt_of_block hN8
      have C := Clone_any nd.kids Ak ck W8 (hAk.below (hb8.mono (by omega))) hsk (by have := hb8.size; omega) (by have := hNd.2.2.2.2.2.2; omega)
      obtain ⟨cs, hcs⟩ : ∃ cs, ndC nd (.slice Aw nd.wraps.length cw) (.slice Ak nd.kids.length ck) = cs := ⟨_, rfl⟩
      have hcl : cs.length = 19 := by rw [← hcs]; rfl
      have hc1 : cs.toArray.all (·.oneCell') = true := by rw [← hcs]; exact ndC_one nd
      rw [hcs] at hW8 hrg
      have HRG := hid hrg
      have HC1 := hid hc1
      have HW8 := hid hW8
      have R8 := HRr.out.on hb8
      have lgl := R8.lt
      have HR8 := hid R8
      have HB8 := hid (HBr.out.trans (hb8.mono hsz))
      have HB8r := hid hb8
      clear hnd hkf hW8 hb8 hN8 hrg hcs hc1 R8 hAk hsk HRr HBr
      go_upto_region 4 with fail
      go_cut [4, 5] from 15 to 17 (fun v4 v5 wx => v4 = .int .i64 (i : Int) ∧ v5 = .pointer (some ⟨wr.heap.size, 0, none⟩) ∧ wx = W8)
      case first =>
        have hst := store_node wr cs hcl HC1.out
        go_wp2_with (first
          | (refine wpList_load_mid rfl 39 (.tmp 16) rfl g (o + i * 19) rfl cs _ HRG.out rfl rfl (by rw [hcl]; exact info_node) ?_))
        go_meet
        exact ⟨rfl, rfl, HW8.out⟩
      case rest =>
      obtain ⟨rfl, rfl, rfl⟩ := hcut
      generalize wc = W8 at *
      go_wp2_with fail
      with_reducible refine C.mono ?_
      rintro e w9 ⟨v, rfl, hv, hb9⟩
      have R9 := HR8.out.on hb9
      have hs9 := hb9.size
      have HB89 := hid (HB8r.out.trans (hb9.mono HB8r.out.size))
      have hs8 := HB8.out.size
      have RS := R9.set i v nd.kids (show w.heap.size ≤ W8.heap.size by omega) hv (fun j u b hu hb => (HR8.out.ow j u hu).lt b hb |>.2) lgl
      rw [HKF.out] at RS
      have hBS : Below w.heap.size w (w9.setCell ⟨gl, i, none⟩ v) := (HB8.out.trans (hb9.mono hs8)).setCell (by show w.heap.size ≤ gl; omega) _
      have HRS := hid RS
      have HBS := hid hBS
      obtain ⟨u0, hu0⟩ : ∃ u0, vs[i]? = some u0 := ⟨_, List.getElem?_eq_getElem (by omega)⟩
      have HC9 := hid (show ∃ cur : Array Value, (w9.setCell ⟨gl, i, none⟩ v).heap[gl]? = some (.cells cur 37 (0, 0)) ∧ cur.size = n from by
        obtain ⟨cur, e1, e2⟩ := HCr.out
        have e3 := (HB89.out.block gl (lt_of_block e1)).trans e1
        exact ⟨_, store_in e3, by simpa using e2⟩)
      have cgl : w9.cell? ⟨gl, i, none⟩ = some u0 := by
        exact R9.hd.cell hu0
      have fgl := R9.hd.froz i
      have lgl9 := R9.lt
      obtain ⟨Av, cv, rfl⟩ := own_shape hv
      clear C o18 RS hBS hv R9
      go_wp2
      go_roundg (n - (i + 1))
      case measure => omega
      case rel => exact ⟨i + 1, _, by go_num, by omega, by omega, by rw [List.length_set]; exact hvl, HRS, HBS, HC9⟩
    · have q : ¬ (i : Int) < (n : Int) := by omega
      have hin : i = n := by omega
      subst hin
      have HF := hid (show KidsO w L (.returned (.slice (some ⟨gl, 0, none⟩) i i)) wr from ⟨gl, vs, by rw [HLN.out], by rw [HLN.out]; exact hvl, by rw [HLN.out]; exact HRr.out, HBr.out, by rw [HLN.out]; exact HRr.out.hd.own hvl HRr.out.ge (by omega) HCr.out⟩)
      go_wp2
      refine bodyPost_ret (v := .slice (some ⟨gl, 0, none⟩) i i) (by simp [results, Tryd.results53, go_sem, *]) rfl HF.out
theorem kids_any {B : Nat} (L : List Nd) (hok : ∀ n ∈ L, n.ok) (A : Option Addr) (c : Nat) (w : World) (hA : NdsAt B w A L) (hB : B ≤ w.heap.size) (hl : L.length ≤ 1000000) :
    Calls Tryd.prog 53 #[.agg #[.slice A L.length c]] w (KidsP w L) :=
  (kids_own L hok A c w hA hB hl).mono fun _ _ ⟨gl, vs, h1, h2, h3, h4, _⟩ => ⟨gl, vs, h1, h2, h3, h4⟩
end Go.Proofs.YtnkojoajcdhngaaDoor
