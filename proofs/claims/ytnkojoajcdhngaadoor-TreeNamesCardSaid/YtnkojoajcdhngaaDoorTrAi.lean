/- Layer 8: beyond, case by case. Written by gen_tr44.py. -/
import Derived.Test.YtnkojoajcdhngaaDoorTrAh
import Derived.Deep.MidRow
namespace Go.Proofs.YtnkojoajcdhngaaDoor
set_option linter.unusedVariables false
set_option linter.unusedSimpArgs false
set_option maxRecDepth 100000
open Go.RowKit Go.Shelf Go.Lib
attribute [local go_sem] Oper.semAt_some
set_option maxRecDepth 100000
set_option maxHeartbeats 16000000

def padW : Wr := ⟨3, 0, 0, ⟨#[]⟩⟩
def byN (n : Nd) : Nat → Nd
  | 0 => { n with name := wdB 65 }
  | 1 => { n with cls := wdB 65 }
  | 2 => { n with txt := wdB 65537 }
  | 3 => { n with mw := -1 }
  | 4 => { n with xh := 16385 }
  | 5 => { n with xw := 16383 }
  | 6 => { n with grow := 16385 }
  | 7 => { n with order := 1048577 }
  | 8 => { n with columns := 65 }
  | 9 => { n with span := -1 }
  | 10 => { n with gap := 16385 }
  | 11 => { n with oy := 1048577 }
  | 13 => { n with name := ⟨#[255]⟩ }
  | 14 => { n with kind := 11 }
  | 15 => { n with order := -2 }
  | 16 => { n with xh := 16383 }
  | 12 => { n with wraps := List.replicate 17 padW }
  | 17 => { n with wraps := [padW, ⟨8, 0, 0, ⟨#[]⟩⟩] }
  | 18 => { n with wraps := [padW, ⟨15, 0, 0, ⟨#[]⟩⟩] }
  | _ => { n with kind := 0 }
/-- A node with one thing else; O: its wrappers are new. -/
def BeyP (w : World) (nd : Nd) (vw vk : Value) (O : Prop) (e : Ending) (w' : World) : Prop := ∃ vw', e = .returned (.agg (ndC nd vw' vk).toArray) ∧ Below w.heap.size w w' ∧ ((vw' = vw ∧ (O → False)) ∨ (O ∧ w'.ownsRow w.heap.size 42 4 vw' nd.wraps.length (wrs nd.wraps)))
theorem bey_0 (n : Nd) (Aw Ak : Option Addr) (lw cw lk ck : Nat) (w : World) (ca : List Value) (hca : ndC n (.slice Aw lw cw) (.slice Ak lk ck) = ca) :
    Calls Tryd.prog 16 #[.agg ca.toArray, .int .i64 0] w (BeyP w (byN n 0) (.slice Aw lw cw) (.slice Ak lk ck) False) := by
  obtain ⟨nd', hnd⟩ : ∃ nd' : Nd, byN n 0 = nd' := ⟨_, rfl⟩
  rw [hnd]
  have HND := hid hnd
  clear hnd
  obtain ⟨s0, hs⟩ : ∃ s0, w.heap.size = s0 := ⟨_, rfl⟩
  have hla : ca.length = 19 := by rw [← hca]; rfl
  have h1a : ca.toArray.all (·.oneCell') = true := by rw [← hca]; exact ndC_one n
  obtain ⟨zc, hzc⟩ : ∃ zc : Array Value, zc = #[.int .u8 0, .string { data := #[] }, .string { data := #[] }, .string { data := #[] }, .int .i64 0, .int .i64 0, .int .i64 0, .int .i64 0, .int .i64 0, .int .i64 0, .bool false, .int .i64 0, .int .i64 0, .int .i64 0, .int .i64 0, .int .i64 0, .bool false, .slice none 0 0, .slice none 0 0] := ⟨_, rfl⟩
  obtain ⟨W, hW⟩ : ∃ W, (w.alloc (.cells ca.toArray 39)).alloc (.cells zc 39) = W := ⟨_, rfl⟩
  have hb : Below w.heap.size w W := by
    rw [← hW]
    exact ((Below.refl _ _).alloc (Nat.le_refl _) _).alloc (by simp) _
  have hN : NBox s0 n (.slice Aw lw cw) (.slice Ak lk ck) W := by
    unfold NBox
    rw [hca, ← hW, ← hs, Below.heap_alloc _ _ _ (by simp)]
    exact World.alloc_heap_new _ _
  have hR : W.heap[s0 + 1]? = some (.cells zc 39 (0, 0)) := by
    rw [← hW, ← hs]
    have := World.alloc_heap_new (w.alloc (.cells ca.toArray 39)) (.cells zc 39)
    rwa [World.size_alloc] at this
  have hsW : W.heap.size = s0 + 2 := by rw [← hW, ← hs]; simp
  have HW := hid hW
  have HB := hid hb
  have HN := hid hN
  have HR := hid hR
  have HSW := hid hsW
  have HS := hid hs
  have HZC := hid hzc
  have hst := store_node w ca hla h1a
  rw [hzc] at HW
  clear hW hb hN hR hca hzc
  go_enter Tryd.func16, Tryd.ntmps16
  go_upto_region 1 with fail
  rw [HW.out]
  clear hst HW
  have C : Calls Tryd.prog 15 #[.int .i64 65] W _ := word_any 65 (by omega) W
  go_wp2_with fail
  with_reducible refine C.mono ?_
  rintro e w1 ⟨rfl, hb1⟩
  have HN1 := hid (HN.out.on hb1)
  have HR1 := hid ((hb1.block (s0 + 1) (by omega)).trans HR.out)
  have HB1 := hid (HB.out.trans (hb1.mono HB.out.size))
  clear C hb1
  have c0 := HN1.out.cells.2.1
  have f0 := blk_frozen HN1.out 1
  have l0 := lt_of_block HN1.out
  have HN5 := hid (show NBox s0 { n with name := wdB 65 } (.slice Aw lw cw) (.slice Ak lk ck) (w1.setCell ⟨s0, 1, none⟩ (.string (wdB 65))) from store_in (i := 1) (u := .string (wdB 65)) HN1.out)
  have HR5 := hid (store_off (i := 1) (u := .string (wdB 65)) HR1.out (show s0 + 1 ≠ s0 by omega))
  have HB5 := hid (HB1.out.setCell (p := ⟨s0, 1, none⟩) (by show w.heap.size ≤ s0; omega) (.string (wdB 65)))
  go_upto_region 44 with fail
  generalize w1.setCell ⟨s0, 1, none⟩ (.string (wdB 65)) = w5 at *
  clear c0 f0 l0
  obtain ⟨cs2, hcs2⟩ : ∃ cs2, ndC { n with name := wdB 65 } (.slice Aw lw cw) (.slice Ak lk ck) = cs2 := ⟨_, rfl⟩
  have hcl2 : cs2.length = 19 := by rw [← hcs2]; rfl
  have h1c : cs2.toArray.all (·.oneCell') = true := by rw [← hcs2]; exact ndC_one _
  have hn5 := HN5.out
  unfold NBox at hn5
  rw [hcs2] at hn5
  have HM5 := hid hn5
  have HCS2 := hid hcs2
  have H1C := hid h1c
  have HZS := hid (show zc.size = cs2.toArray.size from ((congrArg Array.size HZC.out).trans rfl).trans (List.size_toArray.trans hcl2).symm)
  clear hn5 hcs2 h1c
  go_wp2_with (first
    | (refine load_box rfl (.tmp 2) rfl s0 rfl cs2 hcl2 HM5.out ?_)
    | (refine wpList_store_row rfl 39 (.tmp 4) (.tmp 88) rfl (s0 + 1) cs2.toArray rfl rfl 39 zc HR5.out (by rw [List.size_toArray, hcl2]; exact info_node) HZS.out H1C.out ?_))
  have t1 : Turn (fun k => k = s0 + 1) w5 (w5.setRow (s0 + 1) cs2.toArray) := Turn.row w5 _ _
  have hrow := setRow_heap w5 (s0 + 1) zc cs2.toArray 39 (0, 0) HR5.out
  have b5 := below_turn HB5.out (Nat.le_refl _) t1 (fun k hk => by have := HS.out; omega)
  have HF := hid (show BeyP w nd' (.slice Aw lw cw) (.slice Ak lk ck) False (.returned (.agg cs2.toArray)) (w5.setRow (s0 + 1) cs2.toArray) from ⟨.slice Aw lw cw, by rw [← HCS2.out, ← HND.out]; rfl, b5, .inl ⟨rfl, id⟩⟩)
  have HROW := hid hrow
  clear t1 hrow b5
  generalize w5.setRow (s0 + 1) cs2.toArray = E at *
  refine bodyPost_ret (v := .agg cs2.toArray) (results_cell_row Tryd.results16 _ E (s0 + 1) 39 cs2.toArray (0, 0) _ rfl HROW.out rfl rfl (by rw [List.size_toArray, hcl2]; exact info_node)) rfl HF.out
theorem bey_1 (n : Nd) (Aw Ak : Option Addr) (lw cw lk ck : Nat) (w : World) (ca : List Value) (hca : ndC n (.slice Aw lw cw) (.slice Ak lk ck) = ca) :
    Calls Tryd.prog 16 #[.agg ca.toArray, .int .i64 1] w (BeyP w (byN n 1) (.slice Aw lw cw) (.slice Ak lk ck) False) := by
  obtain ⟨nd', hnd⟩ : ∃ nd' : Nd, byN n 1 = nd' := ⟨_, rfl⟩
  rw [hnd]
  have HND := hid hnd
  clear hnd
  obtain ⟨s0, hs⟩ : ∃ s0, w.heap.size = s0 := ⟨_, rfl⟩
  have hla : ca.length = 19 := by rw [← hca]; rfl
  have h1a : ca.toArray.all (·.oneCell') = true := by rw [← hca]; exact ndC_one n
  obtain ⟨zc, hzc⟩ : ∃ zc : Array Value, zc = #[.int .u8 0, .string { data := #[] }, .string { data := #[] }, .string { data := #[] }, .int .i64 0, .int .i64 0, .int .i64 0, .int .i64 0, .int .i64 0, .int .i64 0, .bool false, .int .i64 0, .int .i64 0, .int .i64 0, .int .i64 0, .int .i64 0, .bool false, .slice none 0 0, .slice none 0 0] := ⟨_, rfl⟩
  obtain ⟨W, hW⟩ : ∃ W, (w.alloc (.cells ca.toArray 39)).alloc (.cells zc 39) = W := ⟨_, rfl⟩
  have hb : Below w.heap.size w W := by
    rw [← hW]
    exact ((Below.refl _ _).alloc (Nat.le_refl _) _).alloc (by simp) _
  have hN : NBox s0 n (.slice Aw lw cw) (.slice Ak lk ck) W := by
    unfold NBox
    rw [hca, ← hW, ← hs, Below.heap_alloc _ _ _ (by simp)]
    exact World.alloc_heap_new _ _
  have hR : W.heap[s0 + 1]? = some (.cells zc 39 (0, 0)) := by
    rw [← hW, ← hs]
    have := World.alloc_heap_new (w.alloc (.cells ca.toArray 39)) (.cells zc 39)
    rwa [World.size_alloc] at this
  have hsW : W.heap.size = s0 + 2 := by rw [← hW, ← hs]; simp
  have HW := hid hW
  have HB := hid hb
  have HN := hid hN
  have HR := hid hR
  have HSW := hid hsW
  have HS := hid hs
  have HZC := hid hzc
  have hst := store_node w ca hla h1a
  rw [hzc] at HW
  clear hW hb hN hR hca hzc
  go_enter Tryd.func16, Tryd.ntmps16
  go_upto_region 1 with fail
  rw [HW.out]
  clear hst HW
  have C : Calls Tryd.prog 15 #[.int .i64 65] W _ := word_any 65 (by omega) W
  go_wp2_with fail
  with_reducible refine C.mono ?_
  rintro e w1 ⟨rfl, hb1⟩
  have HN1 := hid (HN.out.on hb1)
  have HR1 := hid ((hb1.block (s0 + 1) (by omega)).trans HR.out)
  have HB1 := hid (HB.out.trans (hb1.mono HB.out.size))
  clear C hb1
  have c0 := HN1.out.cells.2.2.1
  have f0 := blk_frozen HN1.out 2
  have l0 := lt_of_block HN1.out
  have HN5 := hid (show NBox s0 { n with cls := wdB 65 } (.slice Aw lw cw) (.slice Ak lk ck) (w1.setCell ⟨s0, 2, none⟩ (.string (wdB 65))) from store_in (i := 2) (u := .string (wdB 65)) HN1.out)
  have HR5 := hid (store_off (i := 2) (u := .string (wdB 65)) HR1.out (show s0 + 1 ≠ s0 by omega))
  have HB5 := hid (HB1.out.setCell (p := ⟨s0, 2, none⟩) (by show w.heap.size ≤ s0; omega) (.string (wdB 65)))
  go_upto_region 44 with fail
  generalize w1.setCell ⟨s0, 2, none⟩ (.string (wdB 65)) = w5 at *
  clear c0 f0 l0
  obtain ⟨cs2, hcs2⟩ : ∃ cs2, ndC { n with cls := wdB 65 } (.slice Aw lw cw) (.slice Ak lk ck) = cs2 := ⟨_, rfl⟩
  have hcl2 : cs2.length = 19 := by rw [← hcs2]; rfl
  have h1c : cs2.toArray.all (·.oneCell') = true := by rw [← hcs2]; exact ndC_one _
  have hn5 := HN5.out
  unfold NBox at hn5
  rw [hcs2] at hn5
  have HM5 := hid hn5
  have HCS2 := hid hcs2
  have H1C := hid h1c
  have HZS := hid (show zc.size = cs2.toArray.size from ((congrArg Array.size HZC.out).trans rfl).trans (List.size_toArray.trans hcl2).symm)
  clear hn5 hcs2 h1c
  go_wp2_with (first
    | (refine load_box rfl (.tmp 2) rfl s0 rfl cs2 hcl2 HM5.out ?_)
    | (refine wpList_store_row rfl 39 (.tmp 4) (.tmp 88) rfl (s0 + 1) cs2.toArray rfl rfl 39 zc HR5.out (by rw [List.size_toArray, hcl2]; exact info_node) HZS.out H1C.out ?_))
  have t1 : Turn (fun k => k = s0 + 1) w5 (w5.setRow (s0 + 1) cs2.toArray) := Turn.row w5 _ _
  have hrow := setRow_heap w5 (s0 + 1) zc cs2.toArray 39 (0, 0) HR5.out
  have b5 := below_turn HB5.out (Nat.le_refl _) t1 (fun k hk => by have := HS.out; omega)
  have HF := hid (show BeyP w nd' (.slice Aw lw cw) (.slice Ak lk ck) False (.returned (.agg cs2.toArray)) (w5.setRow (s0 + 1) cs2.toArray) from ⟨.slice Aw lw cw, by rw [← HCS2.out, ← HND.out]; rfl, b5, .inl ⟨rfl, id⟩⟩)
  have HROW := hid hrow
  clear t1 hrow b5
  generalize w5.setRow (s0 + 1) cs2.toArray = E at *
  refine bodyPost_ret (v := .agg cs2.toArray) (results_cell_row Tryd.results16 _ E (s0 + 1) 39 cs2.toArray (0, 0) _ rfl HROW.out rfl rfl (by rw [List.size_toArray, hcl2]; exact info_node)) rfl HF.out
theorem bey_2 (n : Nd) (Aw Ak : Option Addr) (lw cw lk ck : Nat) (w : World) (ca : List Value) (hca : ndC n (.slice Aw lw cw) (.slice Ak lk ck) = ca) :
    Calls Tryd.prog 16 #[.agg ca.toArray, .int .i64 2] w (BeyP w (byN n 2) (.slice Aw lw cw) (.slice Ak lk ck) False) := by
  obtain ⟨nd', hnd⟩ : ∃ nd' : Nd, byN n 2 = nd' := ⟨_, rfl⟩
  rw [hnd]
  have HND := hid hnd
  clear hnd
  obtain ⟨s0, hs⟩ : ∃ s0, w.heap.size = s0 := ⟨_, rfl⟩
  have hla : ca.length = 19 := by rw [← hca]; rfl
  have h1a : ca.toArray.all (·.oneCell') = true := by rw [← hca]; exact ndC_one n
  obtain ⟨zc, hzc⟩ : ∃ zc : Array Value, zc = #[.int .u8 0, .string { data := #[] }, .string { data := #[] }, .string { data := #[] }, .int .i64 0, .int .i64 0, .int .i64 0, .int .i64 0, .int .i64 0, .int .i64 0, .bool false, .int .i64 0, .int .i64 0, .int .i64 0, .int .i64 0, .int .i64 0, .bool false, .slice none 0 0, .slice none 0 0] := ⟨_, rfl⟩
  obtain ⟨W, hW⟩ : ∃ W, (w.alloc (.cells ca.toArray 39)).alloc (.cells zc 39) = W := ⟨_, rfl⟩
  have hb : Below w.heap.size w W := by
    rw [← hW]
    exact ((Below.refl _ _).alloc (Nat.le_refl _) _).alloc (by simp) _
  have hN : NBox s0 n (.slice Aw lw cw) (.slice Ak lk ck) W := by
    unfold NBox
    rw [hca, ← hW, ← hs, Below.heap_alloc _ _ _ (by simp)]
    exact World.alloc_heap_new _ _
  have hR : W.heap[s0 + 1]? = some (.cells zc 39 (0, 0)) := by
    rw [← hW, ← hs]
    have := World.alloc_heap_new (w.alloc (.cells ca.toArray 39)) (.cells zc 39)
    rwa [World.size_alloc] at this
  have hsW : W.heap.size = s0 + 2 := by rw [← hW, ← hs]; simp
  have HW := hid hW
  have HB := hid hb
  have HN := hid hN
  have HR := hid hR
  have HSW := hid hsW
  have HS := hid hs
  have HZC := hid hzc
  have hst := store_node w ca hla h1a
  rw [hzc] at HW
  clear hW hb hN hR hca hzc
  go_enter Tryd.func16, Tryd.ntmps16
  go_upto_region 1 with fail
  rw [HW.out]
  clear hst HW
  have C : Calls Tryd.prog 15 #[.int .i64 65537] W _ := word_any 65537 (by omega) W
  go_wp2_with fail
  with_reducible refine C.mono ?_
  rintro e w1 ⟨rfl, hb1⟩
  have HN1 := hid (HN.out.on hb1)
  have HR1 := hid ((hb1.block (s0 + 1) (by omega)).trans HR.out)
  have HB1 := hid (HB.out.trans (hb1.mono HB.out.size))
  clear C hb1
  have c0 := HN1.out.cells.2.2.2.1
  have f0 := blk_frozen HN1.out 3
  have l0 := lt_of_block HN1.out
  have HN5 := hid (show NBox s0 { n with txt := wdB 65537 } (.slice Aw lw cw) (.slice Ak lk ck) (w1.setCell ⟨s0, 3, none⟩ (.string (wdB 65537))) from store_in (i := 3) (u := .string (wdB 65537)) HN1.out)
  have HR5 := hid (store_off (i := 3) (u := .string (wdB 65537)) HR1.out (show s0 + 1 ≠ s0 by omega))
  have HB5 := hid (HB1.out.setCell (p := ⟨s0, 3, none⟩) (by show w.heap.size ≤ s0; omega) (.string (wdB 65537)))
  go_upto_region 44 with fail
  generalize w1.setCell ⟨s0, 3, none⟩ (.string (wdB 65537)) = w5 at *
  clear c0 f0 l0
  obtain ⟨cs2, hcs2⟩ : ∃ cs2, ndC { n with txt := wdB 65537 } (.slice Aw lw cw) (.slice Ak lk ck) = cs2 := ⟨_, rfl⟩
  have hcl2 : cs2.length = 19 := by rw [← hcs2]; rfl
  have h1c : cs2.toArray.all (·.oneCell') = true := by rw [← hcs2]; exact ndC_one _
  have hn5 := HN5.out
  unfold NBox at hn5
  rw [hcs2] at hn5
  have HM5 := hid hn5
  have HCS2 := hid hcs2
  have H1C := hid h1c
  have HZS := hid (show zc.size = cs2.toArray.size from ((congrArg Array.size HZC.out).trans rfl).trans (List.size_toArray.trans hcl2).symm)
  clear hn5 hcs2 h1c
  go_wp2_with (first
    | (refine load_box rfl (.tmp 2) rfl s0 rfl cs2 hcl2 HM5.out ?_)
    | (refine wpList_store_row rfl 39 (.tmp 4) (.tmp 88) rfl (s0 + 1) cs2.toArray rfl rfl 39 zc HR5.out (by rw [List.size_toArray, hcl2]; exact info_node) HZS.out H1C.out ?_))
  have t1 : Turn (fun k => k = s0 + 1) w5 (w5.setRow (s0 + 1) cs2.toArray) := Turn.row w5 _ _
  have hrow := setRow_heap w5 (s0 + 1) zc cs2.toArray 39 (0, 0) HR5.out
  have b5 := below_turn HB5.out (Nat.le_refl _) t1 (fun k hk => by have := HS.out; omega)
  have HF := hid (show BeyP w nd' (.slice Aw lw cw) (.slice Ak lk ck) False (.returned (.agg cs2.toArray)) (w5.setRow (s0 + 1) cs2.toArray) from ⟨.slice Aw lw cw, by rw [← HCS2.out, ← HND.out]; rfl, b5, .inl ⟨rfl, id⟩⟩)
  have HROW := hid hrow
  clear t1 hrow b5
  generalize w5.setRow (s0 + 1) cs2.toArray = E at *
  refine bodyPost_ret (v := .agg cs2.toArray) (results_cell_row Tryd.results16 _ E (s0 + 1) 39 cs2.toArray (0, 0) _ rfl HROW.out rfl rfl (by rw [List.size_toArray, hcl2]; exact info_node)) rfl HF.out
theorem bey_3 (n : Nd) (Aw Ak : Option Addr) (lw cw lk ck : Nat) (w : World) (ca : List Value) (hca : ndC n (.slice Aw lw cw) (.slice Ak lk ck) = ca) :
    Calls Tryd.prog 16 #[.agg ca.toArray, .int .i64 3] w (BeyP w (byN n 3) (.slice Aw lw cw) (.slice Ak lk ck) False) := by
  obtain ⟨nd', hnd⟩ : ∃ nd' : Nd, byN n 3 = nd' := ⟨_, rfl⟩
  rw [hnd]
  have HND := hid hnd
  clear hnd
  obtain ⟨s0, hs⟩ : ∃ s0, w.heap.size = s0 := ⟨_, rfl⟩
  have hla : ca.length = 19 := by rw [← hca]; rfl
  have h1a : ca.toArray.all (·.oneCell') = true := by rw [← hca]; exact ndC_one n
  obtain ⟨zc, hzc⟩ : ∃ zc : Array Value, zc = #[.int .u8 0, .string { data := #[] }, .string { data := #[] }, .string { data := #[] }, .int .i64 0, .int .i64 0, .int .i64 0, .int .i64 0, .int .i64 0, .int .i64 0, .bool false, .int .i64 0, .int .i64 0, .int .i64 0, .int .i64 0, .int .i64 0, .bool false, .slice none 0 0, .slice none 0 0] := ⟨_, rfl⟩
  obtain ⟨W, hW⟩ : ∃ W, (w.alloc (.cells ca.toArray 39)).alloc (.cells zc 39) = W := ⟨_, rfl⟩
  have hb : Below w.heap.size w W := by
    rw [← hW]
    exact ((Below.refl _ _).alloc (Nat.le_refl _) _).alloc (by simp) _
  have hN : NBox s0 n (.slice Aw lw cw) (.slice Ak lk ck) W := by
    unfold NBox
    rw [hca, ← hW, ← hs, Below.heap_alloc _ _ _ (by simp)]
    exact World.alloc_heap_new _ _
  have hR : W.heap[s0 + 1]? = some (.cells zc 39 (0, 0)) := by
    rw [← hW, ← hs]
    have := World.alloc_heap_new (w.alloc (.cells ca.toArray 39)) (.cells zc 39)
    rwa [World.size_alloc] at this
  have hsW : W.heap.size = s0 + 2 := by rw [← hW, ← hs]; simp
  have HW := hid hW
  have HB := hid hb
  have HN := hid hN
  have HR := hid hR
  have HSW := hid hsW
  have HS := hid hs
  have HZC := hid hzc
  have hst := store_node w ca hla h1a
  rw [hzc] at HW
  clear hW hb hN hR hca hzc
  go_enter Tryd.func16, Tryd.ntmps16
  go_upto_region 1 with fail
  rw [HW.out]
  clear hst HW
  have c0 := HN.out.cells.2.2.2.2.1
  have f0 := blk_frozen HN.out 4
  have l0 := lt_of_block HN.out
  have HN5 := hid (show NBox s0 { n with mw := -1 } (.slice Aw lw cw) (.slice Ak lk ck) (W.setCell ⟨s0, 4, none⟩ (.int .i64 (-1))) from store_in (i := 4) (u := .int .i64 (-1)) HN.out)
  have HR5 := hid (store_off (i := 4) (u := .int .i64 (-1)) HR.out (show s0 + 1 ≠ s0 by omega))
  have HB5 := hid (HB.out.setCell (p := ⟨s0, 4, none⟩) (by show w.heap.size ≤ s0; omega) (.int .i64 (-1)))
  go_upto_region 44 with fail
  generalize W.setCell ⟨s0, 4, none⟩ (.int .i64 (-1)) = w5 at *
  clear c0 f0 l0
  obtain ⟨cs2, hcs2⟩ : ∃ cs2, ndC { n with mw := -1 } (.slice Aw lw cw) (.slice Ak lk ck) = cs2 := ⟨_, rfl⟩
  have hcl2 : cs2.length = 19 := by rw [← hcs2]; rfl
  have h1c : cs2.toArray.all (·.oneCell') = true := by rw [← hcs2]; exact ndC_one _
  have hn5 := HN5.out
  unfold NBox at hn5
  rw [hcs2] at hn5
  have HM5 := hid hn5
  have HCS2 := hid hcs2
  have H1C := hid h1c
  have HZS := hid (show zc.size = cs2.toArray.size from ((congrArg Array.size HZC.out).trans rfl).trans (List.size_toArray.trans hcl2).symm)
  clear hn5 hcs2 h1c
  go_wp2_with (first
    | (refine load_box rfl (.tmp 2) rfl s0 rfl cs2 hcl2 HM5.out ?_)
    | (refine wpList_store_row rfl 39 (.tmp 4) (.tmp 88) rfl (s0 + 1) cs2.toArray rfl rfl 39 zc HR5.out (by rw [List.size_toArray, hcl2]; exact info_node) HZS.out H1C.out ?_))
  have t1 : Turn (fun k => k = s0 + 1) w5 (w5.setRow (s0 + 1) cs2.toArray) := Turn.row w5 _ _
  have hrow := setRow_heap w5 (s0 + 1) zc cs2.toArray 39 (0, 0) HR5.out
  have b5 := below_turn HB5.out (Nat.le_refl _) t1 (fun k hk => by have := HS.out; omega)
  have HF := hid (show BeyP w nd' (.slice Aw lw cw) (.slice Ak lk ck) False (.returned (.agg cs2.toArray)) (w5.setRow (s0 + 1) cs2.toArray) from ⟨.slice Aw lw cw, by rw [← HCS2.out, ← HND.out]; rfl, b5, .inl ⟨rfl, id⟩⟩)
  have HROW := hid hrow
  clear t1 hrow b5
  generalize w5.setRow (s0 + 1) cs2.toArray = E at *
  refine bodyPost_ret (v := .agg cs2.toArray) (results_cell_row Tryd.results16 _ E (s0 + 1) 39 cs2.toArray (0, 0) _ rfl HROW.out rfl rfl (by rw [List.size_toArray, hcl2]; exact info_node)) rfl HF.out
theorem bey_4 (n : Nd) (Aw Ak : Option Addr) (lw cw lk ck : Nat) (w : World) (ca : List Value) (hca : ndC n (.slice Aw lw cw) (.slice Ak lk ck) = ca) :
    Calls Tryd.prog 16 #[.agg ca.toArray, .int .i64 4] w (BeyP w (byN n 4) (.slice Aw lw cw) (.slice Ak lk ck) False) := by
  obtain ⟨nd', hnd⟩ : ∃ nd' : Nd, byN n 4 = nd' := ⟨_, rfl⟩
  rw [hnd]
  have HND := hid hnd
  clear hnd
  obtain ⟨s0, hs⟩ : ∃ s0, w.heap.size = s0 := ⟨_, rfl⟩
  have hla : ca.length = 19 := by rw [← hca]; rfl
  have h1a : ca.toArray.all (·.oneCell') = true := by rw [← hca]; exact ndC_one n
  obtain ⟨zc, hzc⟩ : ∃ zc : Array Value, zc = #[.int .u8 0, .string { data := #[] }, .string { data := #[] }, .string { data := #[] }, .int .i64 0, .int .i64 0, .int .i64 0, .int .i64 0, .int .i64 0, .int .i64 0, .bool false, .int .i64 0, .int .i64 0, .int .i64 0, .int .i64 0, .int .i64 0, .bool false, .slice none 0 0, .slice none 0 0] := ⟨_, rfl⟩
  obtain ⟨W, hW⟩ : ∃ W, (w.alloc (.cells ca.toArray 39)).alloc (.cells zc 39) = W := ⟨_, rfl⟩
  have hb : Below w.heap.size w W := by
    rw [← hW]
    exact ((Below.refl _ _).alloc (Nat.le_refl _) _).alloc (by simp) _
  have hN : NBox s0 n (.slice Aw lw cw) (.slice Ak lk ck) W := by
    unfold NBox
    rw [hca, ← hW, ← hs, Below.heap_alloc _ _ _ (by simp)]
    exact World.alloc_heap_new _ _
  have hR : W.heap[s0 + 1]? = some (.cells zc 39 (0, 0)) := by
    rw [← hW, ← hs]
    have := World.alloc_heap_new (w.alloc (.cells ca.toArray 39)) (.cells zc 39)
    rwa [World.size_alloc] at this
  have hsW : W.heap.size = s0 + 2 := by rw [← hW, ← hs]; simp
  have HW := hid hW
  have HB := hid hb
  have HN := hid hN
  have HR := hid hR
  have HSW := hid hsW
  have HS := hid hs
  have HZC := hid hzc
  have hst := store_node w ca hla h1a
  rw [hzc] at HW
  clear hW hb hN hR hca hzc
  go_enter Tryd.func16, Tryd.ntmps16
  go_upto_region 1 with fail
  rw [HW.out]
  clear hst HW
  have c0 := HN.out.cells.2.2.2.2.2.2.2.1
  have f0 := blk_frozen HN.out 7
  have l0 := lt_of_block HN.out
  have HN5 := hid (show NBox s0 { n with xh := 16385 } (.slice Aw lw cw) (.slice Ak lk ck) (W.setCell ⟨s0, 7, none⟩ (.int .i64 16385)) from store_in (i := 7) (u := .int .i64 16385) HN.out)
  have HR5 := hid (store_off (i := 7) (u := .int .i64 16385) HR.out (show s0 + 1 ≠ s0 by omega))
  have HB5 := hid (HB.out.setCell (p := ⟨s0, 7, none⟩) (by show w.heap.size ≤ s0; omega) (.int .i64 16385))
  go_upto_region 44 with fail
  generalize W.setCell ⟨s0, 7, none⟩ (.int .i64 16385) = w5 at *
  clear c0 f0 l0
  obtain ⟨cs2, hcs2⟩ : ∃ cs2, ndC { n with xh := 16385 } (.slice Aw lw cw) (.slice Ak lk ck) = cs2 := ⟨_, rfl⟩
  have hcl2 : cs2.length = 19 := by rw [← hcs2]; rfl
  have h1c : cs2.toArray.all (·.oneCell') = true := by rw [← hcs2]; exact ndC_one _
  have hn5 := HN5.out
  unfold NBox at hn5
  rw [hcs2] at hn5
  have HM5 := hid hn5
  have HCS2 := hid hcs2
  have H1C := hid h1c
  have HZS := hid (show zc.size = cs2.toArray.size from ((congrArg Array.size HZC.out).trans rfl).trans (List.size_toArray.trans hcl2).symm)
  clear hn5 hcs2 h1c
  go_wp2_with (first
    | (refine load_box rfl (.tmp 2) rfl s0 rfl cs2 hcl2 HM5.out ?_)
    | (refine wpList_store_row rfl 39 (.tmp 4) (.tmp 88) rfl (s0 + 1) cs2.toArray rfl rfl 39 zc HR5.out (by rw [List.size_toArray, hcl2]; exact info_node) HZS.out H1C.out ?_))
  have t1 : Turn (fun k => k = s0 + 1) w5 (w5.setRow (s0 + 1) cs2.toArray) := Turn.row w5 _ _
  have hrow := setRow_heap w5 (s0 + 1) zc cs2.toArray 39 (0, 0) HR5.out
  have b5 := below_turn HB5.out (Nat.le_refl _) t1 (fun k hk => by have := HS.out; omega)
  have HF := hid (show BeyP w nd' (.slice Aw lw cw) (.slice Ak lk ck) False (.returned (.agg cs2.toArray)) (w5.setRow (s0 + 1) cs2.toArray) from ⟨.slice Aw lw cw, by rw [← HCS2.out, ← HND.out]; rfl, b5, .inl ⟨rfl, id⟩⟩)
  have HROW := hid hrow
  clear t1 hrow b5
  generalize w5.setRow (s0 + 1) cs2.toArray = E at *
  refine bodyPost_ret (v := .agg cs2.toArray) (results_cell_row Tryd.results16 _ E (s0 + 1) 39 cs2.toArray (0, 0) _ rfl HROW.out rfl rfl (by rw [List.size_toArray, hcl2]; exact info_node)) rfl HF.out
theorem bey_5 (n : Nd) (Aw Ak : Option Addr) (lw cw lk ck : Nat) (w : World) (ca : List Value) (hca : ndC n (.slice Aw lw cw) (.slice Ak lk ck) = ca) :
    Calls Tryd.prog 16 #[.agg ca.toArray, .int .i64 5] w (BeyP w (byN n 5) (.slice Aw lw cw) (.slice Ak lk ck) False) := by
  obtain ⟨nd', hnd⟩ : ∃ nd' : Nd, byN n 5 = nd' := ⟨_, rfl⟩
  rw [hnd]
  have HND := hid hnd
  clear hnd
  obtain ⟨s0, hs⟩ : ∃ s0, w.heap.size = s0 := ⟨_, rfl⟩
  have hla : ca.length = 19 := by rw [← hca]; rfl
  have h1a : ca.toArray.all (·.oneCell') = true := by rw [← hca]; exact ndC_one n
  obtain ⟨zc, hzc⟩ : ∃ zc : Array Value, zc = #[.int .u8 0, .string { data := #[] }, .string { data := #[] }, .string { data := #[] }, .int .i64 0, .int .i64 0, .int .i64 0, .int .i64 0, .int .i64 0, .int .i64 0, .bool false, .int .i64 0, .int .i64 0, .int .i64 0, .int .i64 0, .int .i64 0, .bool false, .slice none 0 0, .slice none 0 0] := ⟨_, rfl⟩
  obtain ⟨W, hW⟩ : ∃ W, (w.alloc (.cells ca.toArray 39)).alloc (.cells zc 39) = W := ⟨_, rfl⟩
  have hb : Below w.heap.size w W := by
    rw [← hW]
    exact ((Below.refl _ _).alloc (Nat.le_refl _) _).alloc (by simp) _
  have hN : NBox s0 n (.slice Aw lw cw) (.slice Ak lk ck) W := by
    unfold NBox
    rw [hca, ← hW, ← hs, Below.heap_alloc _ _ _ (by simp)]
    exact World.alloc_heap_new _ _
  have hR : W.heap[s0 + 1]? = some (.cells zc 39 (0, 0)) := by
    rw [← hW, ← hs]
    have := World.alloc_heap_new (w.alloc (.cells ca.toArray 39)) (.cells zc 39)
    rwa [World.size_alloc] at this
  have hsW : W.heap.size = s0 + 2 := by rw [← hW, ← hs]; simp
  have HW := hid hW
  have HB := hid hb
  have HN := hid hN
  have HR := hid hR
  have HSW := hid hsW
  have HS := hid hs
  have HZC := hid hzc
  have hst := store_node w ca hla h1a
  rw [hzc] at HW
  clear hW hb hN hR hca hzc
  go_enter Tryd.func16, Tryd.ntmps16
  go_upto_region 1 with fail
  rw [HW.out]
  clear hst HW
  have c0 := HN.out.cells.2.2.2.2.2.2.1
  have f0 := blk_frozen HN.out 6
  have l0 := lt_of_block HN.out
  have HN5 := hid (show NBox s0 { n with xw := 16383 } (.slice Aw lw cw) (.slice Ak lk ck) (W.setCell ⟨s0, 6, none⟩ (.int .i64 16383)) from store_in (i := 6) (u := .int .i64 16383) HN.out)
  have HR5 := hid (store_off (i := 6) (u := .int .i64 16383) HR.out (show s0 + 1 ≠ s0 by omega))
  have HB5 := hid (HB.out.setCell (p := ⟨s0, 6, none⟩) (by show w.heap.size ≤ s0; omega) (.int .i64 16383))
  go_upto_region 44 with fail
  generalize W.setCell ⟨s0, 6, none⟩ (.int .i64 16383) = w5 at *
  clear c0 f0 l0
  obtain ⟨cs2, hcs2⟩ : ∃ cs2, ndC { n with xw := 16383 } (.slice Aw lw cw) (.slice Ak lk ck) = cs2 := ⟨_, rfl⟩
  have hcl2 : cs2.length = 19 := by rw [← hcs2]; rfl
  have h1c : cs2.toArray.all (·.oneCell') = true := by rw [← hcs2]; exact ndC_one _
  have hn5 := HN5.out
  unfold NBox at hn5
  rw [hcs2] at hn5
  have HM5 := hid hn5
  have HCS2 := hid hcs2
  have H1C := hid h1c
  have HZS := hid (show zc.size = cs2.toArray.size from ((congrArg Array.size HZC.out).trans rfl).trans (List.size_toArray.trans hcl2).symm)
  clear hn5 hcs2 h1c
  go_wp2_with (first
    | (refine load_box rfl (.tmp 2) rfl s0 rfl cs2 hcl2 HM5.out ?_)
    | (refine wpList_store_row rfl 39 (.tmp 4) (.tmp 88) rfl (s0 + 1) cs2.toArray rfl rfl 39 zc HR5.out (by rw [List.size_toArray, hcl2]; exact info_node) HZS.out H1C.out ?_))
  have t1 : Turn (fun k => k = s0 + 1) w5 (w5.setRow (s0 + 1) cs2.toArray) := Turn.row w5 _ _
  have hrow := setRow_heap w5 (s0 + 1) zc cs2.toArray 39 (0, 0) HR5.out
  have b5 := below_turn HB5.out (Nat.le_refl _) t1 (fun k hk => by have := HS.out; omega)
  have HF := hid (show BeyP w nd' (.slice Aw lw cw) (.slice Ak lk ck) False (.returned (.agg cs2.toArray)) (w5.setRow (s0 + 1) cs2.toArray) from ⟨.slice Aw lw cw, by rw [← HCS2.out, ← HND.out]; rfl, b5, .inl ⟨rfl, id⟩⟩)
  have HROW := hid hrow
  clear t1 hrow b5
  generalize w5.setRow (s0 + 1) cs2.toArray = E at *
  refine bodyPost_ret (v := .agg cs2.toArray) (results_cell_row Tryd.results16 _ E (s0 + 1) 39 cs2.toArray (0, 0) _ rfl HROW.out rfl rfl (by rw [List.size_toArray, hcl2]; exact info_node)) rfl HF.out
end Go.Proofs.YtnkojoajcdhngaaDoor

/- Layer 8: beyond, case by case. Written by gen_tr44.py. -/
namespace Go.Proofs.YtnkojoajcdhngaaDoor
set_option linter.unusedVariables false
set_option linter.unusedSimpArgs false
set_option maxRecDepth 100000
open Go.RowKit Go.Shelf Go.Lib
attribute [local go_sem] Oper.semAt_some
set_option maxRecDepth 100000
set_option maxHeartbeats 16000000

theorem bey_6 (n : Nd) (Aw Ak : Option Addr) (lw cw lk ck : Nat) (w : World) (ca : List Value) (hca : ndC n (.slice Aw lw cw) (.slice Ak lk ck) = ca) :
    Calls Tryd.prog 16 #[.agg ca.toArray, .int .i64 6] w (BeyP w (byN n 6) (.slice Aw lw cw) (.slice Ak lk ck) False) := by
  obtain ⟨nd', hnd⟩ : ∃ nd' : Nd, byN n 6 = nd' := ⟨_, rfl⟩
  rw [hnd]
  have HND := hid hnd
  clear hnd
  obtain ⟨s0, hs⟩ : ∃ s0, w.heap.size = s0 := ⟨_, rfl⟩
  have hla : ca.length = 19 := by rw [← hca]; rfl
  have h1a : ca.toArray.all (·.oneCell') = true := by rw [← hca]; exact ndC_one n
  obtain ⟨zc, hzc⟩ : ∃ zc : Array Value, zc = #[.int .u8 0, .string { data := #[] }, .string { data := #[] }, .string { data := #[] }, .int .i64 0, .int .i64 0, .int .i64 0, .int .i64 0, .int .i64 0, .int .i64 0, .bool false, .int .i64 0, .int .i64 0, .int .i64 0, .int .i64 0, .int .i64 0, .bool false, .slice none 0 0, .slice none 0 0] := ⟨_, rfl⟩
  obtain ⟨W, hW⟩ : ∃ W, (w.alloc (.cells ca.toArray 39)).alloc (.cells zc 39) = W := ⟨_, rfl⟩
  have hb : Below w.heap.size w W := by
    rw [← hW]
    exact ((Below.refl _ _).alloc (Nat.le_refl _) _).alloc (by simp) _
  have hN : NBox s0 n (.slice Aw lw cw) (.slice Ak lk ck) W := by
    unfold NBox
    rw [hca, ← hW, ← hs, Below.heap_alloc _ _ _ (by simp)]
    exact World.alloc_heap_new _ _
  have hR : W.heap[s0 + 1]? = some (.cells zc 39 (0, 0)) := by
    rw [← hW, ← hs]
    have := World.alloc_heap_new (w.alloc (.cells ca.toArray 39)) (.cells zc 39)
    rwa [World.size_alloc] at this
  have hsW : W.heap.size = s0 + 2 := by rw [← hW, ← hs]; simp
  have HW := hid hW
  have HB := hid hb
  have HN := hid hN
  have HR := hid hR
  have HSW := hid hsW
  have HS := hid hs
  have HZC := hid hzc
  have hst := store_node w ca hla h1a
  rw [hzc] at HW
  clear hW hb hN hR hca hzc
  go_enter Tryd.func16, Tryd.ntmps16
  go_upto_region 1 with fail
  rw [HW.out]
  clear hst HW
  have c0 := HN.out.cells.2.2.2.2.2.2.2.2.1
  have f0 := blk_frozen HN.out 8
  have l0 := lt_of_block HN.out
  have HN5 := hid (show NBox s0 { n with grow := 16385 } (.slice Aw lw cw) (.slice Ak lk ck) (W.setCell ⟨s0, 8, none⟩ (.int .i64 16385)) from store_in (i := 8) (u := .int .i64 16385) HN.out)
  have HR5 := hid (store_off (i := 8) (u := .int .i64 16385) HR.out (show s0 + 1 ≠ s0 by omega))
  have HB5 := hid (HB.out.setCell (p := ⟨s0, 8, none⟩) (by show w.heap.size ≤ s0; omega) (.int .i64 16385))
  go_upto_region 44 with fail
  generalize W.setCell ⟨s0, 8, none⟩ (.int .i64 16385) = w5 at *
  clear c0 f0 l0
  obtain ⟨cs2, hcs2⟩ : ∃ cs2, ndC { n with grow := 16385 } (.slice Aw lw cw) (.slice Ak lk ck) = cs2 := ⟨_, rfl⟩
  have hcl2 : cs2.length = 19 := by rw [← hcs2]; rfl
  have h1c : cs2.toArray.all (·.oneCell') = true := by rw [← hcs2]; exact ndC_one _
  have hn5 := HN5.out
  unfold NBox at hn5
  rw [hcs2] at hn5
  have HM5 := hid hn5
  have HCS2 := hid hcs2
  have H1C := hid h1c
  have HZS := hid (show zc.size = cs2.toArray.size from ((congrArg Array.size HZC.out).trans rfl).trans (List.size_toArray.trans hcl2).symm)
  clear hn5 hcs2 h1c
  go_wp2_with (first
    | (refine load_box rfl (.tmp 2) rfl s0 rfl cs2 hcl2 HM5.out ?_)
    | (refine wpList_store_row rfl 39 (.tmp 4) (.tmp 88) rfl (s0 + 1) cs2.toArray rfl rfl 39 zc HR5.out (by rw [List.size_toArray, hcl2]; exact info_node) HZS.out H1C.out ?_))
  have t1 : Turn (fun k => k = s0 + 1) w5 (w5.setRow (s0 + 1) cs2.toArray) := Turn.row w5 _ _
  have hrow := setRow_heap w5 (s0 + 1) zc cs2.toArray 39 (0, 0) HR5.out
  have b5 := below_turn HB5.out (Nat.le_refl _) t1 (fun k hk => by have := HS.out; omega)
  have HF := hid (show BeyP w nd' (.slice Aw lw cw) (.slice Ak lk ck) False (.returned (.agg cs2.toArray)) (w5.setRow (s0 + 1) cs2.toArray) from ⟨.slice Aw lw cw, by rw [← HCS2.out, ← HND.out]; rfl, b5, .inl ⟨rfl, id⟩⟩)
  have HROW := hid hrow
  clear t1 hrow b5
  generalize w5.setRow (s0 + 1) cs2.toArray = E at *
  refine bodyPost_ret (v := .agg cs2.toArray) (results_cell_row Tryd.results16 _ E (s0 + 1) 39 cs2.toArray (0, 0) _ rfl HROW.out rfl rfl (by rw [List.size_toArray, hcl2]; exact info_node)) rfl HF.out
theorem bey_7 (n : Nd) (Aw Ak : Option Addr) (lw cw lk ck : Nat) (w : World) (ca : List Value) (hca : ndC n (.slice Aw lw cw) (.slice Ak lk ck) = ca) :
    Calls Tryd.prog 16 #[.agg ca.toArray, .int .i64 7] w (BeyP w (byN n 7) (.slice Aw lw cw) (.slice Ak lk ck) False) := by
  obtain ⟨nd', hnd⟩ : ∃ nd' : Nd, byN n 7 = nd' := ⟨_, rfl⟩
  rw [hnd]
  have HND := hid hnd
  clear hnd
  obtain ⟨s0, hs⟩ : ∃ s0, w.heap.size = s0 := ⟨_, rfl⟩
  have hla : ca.length = 19 := by rw [← hca]; rfl
  have h1a : ca.toArray.all (·.oneCell') = true := by rw [← hca]; exact ndC_one n
  obtain ⟨zc, hzc⟩ : ∃ zc : Array Value, zc = #[.int .u8 0, .string { data := #[] }, .string { data := #[] }, .string { data := #[] }, .int .i64 0, .int .i64 0, .int .i64 0, .int .i64 0, .int .i64 0, .int .i64 0, .bool false, .int .i64 0, .int .i64 0, .int .i64 0, .int .i64 0, .int .i64 0, .bool false, .slice none 0 0, .slice none 0 0] := ⟨_, rfl⟩
  obtain ⟨W, hW⟩ : ∃ W, (w.alloc (.cells ca.toArray 39)).alloc (.cells zc 39) = W := ⟨_, rfl⟩
  have hb : Below w.heap.size w W := by
    rw [← hW]
    exact ((Below.refl _ _).alloc (Nat.le_refl _) _).alloc (by simp) _
  have hN : NBox s0 n (.slice Aw lw cw) (.slice Ak lk ck) W := by
    unfold NBox
    rw [hca, ← hW, ← hs, Below.heap_alloc _ _ _ (by simp)]
    exact World.alloc_heap_new _ _
  have hR : W.heap[s0 + 1]? = some (.cells zc 39 (0, 0)) := by
    rw [← hW, ← hs]
    have := World.alloc_heap_new (w.alloc (.cells ca.toArray 39)) (.cells zc 39)
    rwa [World.size_alloc] at this
  have hsW : W.heap.size = s0 + 2 := by rw [← hW, ← hs]; simp
  have HW := hid hW
  have HB := hid hb
  have HN := hid hN
  have HR := hid hR
  have HSW := hid hsW
  have HS := hid hs
  have HZC := hid hzc
  have hst := store_node w ca hla h1a
  rw [hzc] at HW
  clear hW hb hN hR hca hzc
  go_enter Tryd.func16, Tryd.ntmps16
  go_upto_region 1 with fail
  rw [HW.out]
  clear hst HW
  have c0 := HN.out.cells.2.2.2.2.2.2.2.2.2.1
  have f0 := blk_frozen HN.out 9
  have l0 := lt_of_block HN.out
  have HN5 := hid (show NBox s0 { n with order := 1048577 } (.slice Aw lw cw) (.slice Ak lk ck) (W.setCell ⟨s0, 9, none⟩ (.int .i64 1048577)) from store_in (i := 9) (u := .int .i64 1048577) HN.out)
  have HR5 := hid (store_off (i := 9) (u := .int .i64 1048577) HR.out (show s0 + 1 ≠ s0 by omega))
  have HB5 := hid (HB.out.setCell (p := ⟨s0, 9, none⟩) (by show w.heap.size ≤ s0; omega) (.int .i64 1048577))
  go_upto_region 44 with fail
  generalize W.setCell ⟨s0, 9, none⟩ (.int .i64 1048577) = w5 at *
  clear c0 f0 l0
  obtain ⟨cs2, hcs2⟩ : ∃ cs2, ndC { n with order := 1048577 } (.slice Aw lw cw) (.slice Ak lk ck) = cs2 := ⟨_, rfl⟩
  have hcl2 : cs2.length = 19 := by rw [← hcs2]; rfl
  have h1c : cs2.toArray.all (·.oneCell') = true := by rw [← hcs2]; exact ndC_one _
  have hn5 := HN5.out
  unfold NBox at hn5
  rw [hcs2] at hn5
  have HM5 := hid hn5
  have HCS2 := hid hcs2
  have H1C := hid h1c
  have HZS := hid (show zc.size = cs2.toArray.size from ((congrArg Array.size HZC.out).trans rfl).trans (List.size_toArray.trans hcl2).symm)
  clear hn5 hcs2 h1c
  go_wp2_with (first
    | (refine load_box rfl (.tmp 2) rfl s0 rfl cs2 hcl2 HM5.out ?_)
    | (refine wpList_store_row rfl 39 (.tmp 4) (.tmp 88) rfl (s0 + 1) cs2.toArray rfl rfl 39 zc HR5.out (by rw [List.size_toArray, hcl2]; exact info_node) HZS.out H1C.out ?_))
  have t1 : Turn (fun k => k = s0 + 1) w5 (w5.setRow (s0 + 1) cs2.toArray) := Turn.row w5 _ _
  have hrow := setRow_heap w5 (s0 + 1) zc cs2.toArray 39 (0, 0) HR5.out
  have b5 := below_turn HB5.out (Nat.le_refl _) t1 (fun k hk => by have := HS.out; omega)
  have HF := hid (show BeyP w nd' (.slice Aw lw cw) (.slice Ak lk ck) False (.returned (.agg cs2.toArray)) (w5.setRow (s0 + 1) cs2.toArray) from ⟨.slice Aw lw cw, by rw [← HCS2.out, ← HND.out]; rfl, b5, .inl ⟨rfl, id⟩⟩)
  have HROW := hid hrow
  clear t1 hrow b5
  generalize w5.setRow (s0 + 1) cs2.toArray = E at *
  refine bodyPost_ret (v := .agg cs2.toArray) (results_cell_row Tryd.results16 _ E (s0 + 1) 39 cs2.toArray (0, 0) _ rfl HROW.out rfl rfl (by rw [List.size_toArray, hcl2]; exact info_node)) rfl HF.out
theorem bey_8 (n : Nd) (Aw Ak : Option Addr) (lw cw lk ck : Nat) (w : World) (ca : List Value) (hca : ndC n (.slice Aw lw cw) (.slice Ak lk ck) = ca) :
    Calls Tryd.prog 16 #[.agg ca.toArray, .int .i64 8] w (BeyP w (byN n 8) (.slice Aw lw cw) (.slice Ak lk ck) False) := by
  obtain ⟨nd', hnd⟩ : ∃ nd' : Nd, byN n 8 = nd' := ⟨_, rfl⟩
  rw [hnd]
  have HND := hid hnd
  clear hnd
  obtain ⟨s0, hs⟩ : ∃ s0, w.heap.size = s0 := ⟨_, rfl⟩
  have hla : ca.length = 19 := by rw [← hca]; rfl
  have h1a : ca.toArray.all (·.oneCell') = true := by rw [← hca]; exact ndC_one n
  obtain ⟨zc, hzc⟩ : ∃ zc : Array Value, zc = #[.int .u8 0, .string { data := #[] }, .string { data := #[] }, .string { data := #[] }, .int .i64 0, .int .i64 0, .int .i64 0, .int .i64 0, .int .i64 0, .int .i64 0, .bool false, .int .i64 0, .int .i64 0, .int .i64 0, .int .i64 0, .int .i64 0, .bool false, .slice none 0 0, .slice none 0 0] := ⟨_, rfl⟩
  obtain ⟨W, hW⟩ : ∃ W, (w.alloc (.cells ca.toArray 39)).alloc (.cells zc 39) = W := ⟨_, rfl⟩
  have hb : Below w.heap.size w W := by
    rw [← hW]
    exact ((Below.refl _ _).alloc (Nat.le_refl _) _).alloc (by simp) _
  have hN : NBox s0 n (.slice Aw lw cw) (.slice Ak lk ck) W := by
    unfold NBox
    rw [hca, ← hW, ← hs, Below.heap_alloc _ _ _ (by simp)]
    exact World.alloc_heap_new _ _
  have hR : W.heap[s0 + 1]? = some (.cells zc 39 (0, 0)) := by
    rw [← hW, ← hs]
    have := World.alloc_heap_new (w.alloc (.cells ca.toArray 39)) (.cells zc 39)
    rwa [World.size_alloc] at this
  have hsW : W.heap.size = s0 + 2 := by rw [← hW, ← hs]; simp
  have HW := hid hW
  have HB := hid hb
  have HN := hid hN
  have HR := hid hR
  have HSW := hid hsW
  have HS := hid hs
  have HZC := hid hzc
  have hst := store_node w ca hla h1a
  rw [hzc] at HW
  clear hW hb hN hR hca hzc
  go_enter Tryd.func16, Tryd.ntmps16
  go_upto_region 1 with fail
  rw [HW.out]
  clear hst HW
  have c0 := HN.out.cells.2.2.2.2.2.2.2.2.2.2.2.1
  have f0 := blk_frozen HN.out 11
  have l0 := lt_of_block HN.out
  have HN5 := hid (show NBox s0 { n with columns := 65 } (.slice Aw lw cw) (.slice Ak lk ck) (W.setCell ⟨s0, 11, none⟩ (.int .i64 65)) from store_in (i := 11) (u := .int .i64 65) HN.out)
  have HR5 := hid (store_off (i := 11) (u := .int .i64 65) HR.out (show s0 + 1 ≠ s0 by omega))
  have HB5 := hid (HB.out.setCell (p := ⟨s0, 11, none⟩) (by show w.heap.size ≤ s0; omega) (.int .i64 65))
  go_upto_region 44 with fail
  generalize W.setCell ⟨s0, 11, none⟩ (.int .i64 65) = w5 at *
  clear c0 f0 l0
  obtain ⟨cs2, hcs2⟩ : ∃ cs2, ndC { n with columns := 65 } (.slice Aw lw cw) (.slice Ak lk ck) = cs2 := ⟨_, rfl⟩
  have hcl2 : cs2.length = 19 := by rw [← hcs2]; rfl
  have h1c : cs2.toArray.all (·.oneCell') = true := by rw [← hcs2]; exact ndC_one _
  have hn5 := HN5.out
  unfold NBox at hn5
  rw [hcs2] at hn5
  have HM5 := hid hn5
  have HCS2 := hid hcs2
  have H1C := hid h1c
  have HZS := hid (show zc.size = cs2.toArray.size from ((congrArg Array.size HZC.out).trans rfl).trans (List.size_toArray.trans hcl2).symm)
  clear hn5 hcs2 h1c
  go_wp2_with (first
    | (refine load_box rfl (.tmp 2) rfl s0 rfl cs2 hcl2 HM5.out ?_)
    | (refine wpList_store_row rfl 39 (.tmp 4) (.tmp 88) rfl (s0 + 1) cs2.toArray rfl rfl 39 zc HR5.out (by rw [List.size_toArray, hcl2]; exact info_node) HZS.out H1C.out ?_))
  have t1 : Turn (fun k => k = s0 + 1) w5 (w5.setRow (s0 + 1) cs2.toArray) := Turn.row w5 _ _
  have hrow := setRow_heap w5 (s0 + 1) zc cs2.toArray 39 (0, 0) HR5.out
  have b5 := below_turn HB5.out (Nat.le_refl _) t1 (fun k hk => by have := HS.out; omega)
  have HF := hid (show BeyP w nd' (.slice Aw lw cw) (.slice Ak lk ck) False (.returned (.agg cs2.toArray)) (w5.setRow (s0 + 1) cs2.toArray) from ⟨.slice Aw lw cw, by rw [← HCS2.out, ← HND.out]; rfl, b5, .inl ⟨rfl, id⟩⟩)
  have HROW := hid hrow
  clear t1 hrow b5
  generalize w5.setRow (s0 + 1) cs2.toArray = E at *
  refine bodyPost_ret (v := .agg cs2.toArray) (results_cell_row Tryd.results16 _ E (s0 + 1) 39 cs2.toArray (0, 0) _ rfl HROW.out rfl rfl (by rw [List.size_toArray, hcl2]; exact info_node)) rfl HF.out
theorem bey_9 (n : Nd) (Aw Ak : Option Addr) (lw cw lk ck : Nat) (w : World) (ca : List Value) (hca : ndC n (.slice Aw lw cw) (.slice Ak lk ck) = ca) :
    Calls Tryd.prog 16 #[.agg ca.toArray, .int .i64 9] w (BeyP w (byN n 9) (.slice Aw lw cw) (.slice Ak lk ck) False) := by
  obtain ⟨nd', hnd⟩ : ∃ nd' : Nd, byN n 9 = nd' := ⟨_, rfl⟩
  rw [hnd]
  have HND := hid hnd
  clear hnd
  obtain ⟨s0, hs⟩ : ∃ s0, w.heap.size = s0 := ⟨_, rfl⟩
  have hla : ca.length = 19 := by rw [← hca]; rfl
  have h1a : ca.toArray.all (·.oneCell') = true := by rw [← hca]; exact ndC_one n
  obtain ⟨zc, hzc⟩ : ∃ zc : Array Value, zc = #[.int .u8 0, .string { data := #[] }, .string { data := #[] }, .string { data := #[] }, .int .i64 0, .int .i64 0, .int .i64 0, .int .i64 0, .int .i64 0, .int .i64 0, .bool false, .int .i64 0, .int .i64 0, .int .i64 0, .int .i64 0, .int .i64 0, .bool false, .slice none 0 0, .slice none 0 0] := ⟨_, rfl⟩
  obtain ⟨W, hW⟩ : ∃ W, (w.alloc (.cells ca.toArray 39)).alloc (.cells zc 39) = W := ⟨_, rfl⟩
  have hb : Below w.heap.size w W := by
    rw [← hW]
    exact ((Below.refl _ _).alloc (Nat.le_refl _) _).alloc (by simp) _
  have hN : NBox s0 n (.slice Aw lw cw) (.slice Ak lk ck) W := by
    unfold NBox
    rw [hca, ← hW, ← hs, Below.heap_alloc _ _ _ (by simp)]
    exact World.alloc_heap_new _ _
  have hR : W.heap[s0 + 1]? = some (.cells zc 39 (0, 0)) := by
    rw [← hW, ← hs]
    have := World.alloc_heap_new (w.alloc (.cells ca.toArray 39)) (.cells zc 39)
    rwa [World.size_alloc] at this
  have hsW : W.heap.size = s0 + 2 := by rw [← hW, ← hs]; simp
  have HW := hid hW
  have HB := hid hb
  have HN := hid hN
  have HR := hid hR
  have HSW := hid hsW
  have HS := hid hs
  have HZC := hid hzc
  have hst := store_node w ca hla h1a
  rw [hzc] at HW
  clear hW hb hN hR hca hzc
  go_enter Tryd.func16, Tryd.ntmps16
  go_upto_region 1 with fail
  rw [HW.out]
  clear hst HW
  have c0 := HN.out.cells.2.2.2.2.2.2.2.2.2.2.2.2.1
  have f0 := blk_frozen HN.out 12
  have l0 := lt_of_block HN.out
  have HN5 := hid (show NBox s0 { n with span := -1 } (.slice Aw lw cw) (.slice Ak lk ck) (W.setCell ⟨s0, 12, none⟩ (.int .i64 (-1))) from store_in (i := 12) (u := .int .i64 (-1)) HN.out)
  have HR5 := hid (store_off (i := 12) (u := .int .i64 (-1)) HR.out (show s0 + 1 ≠ s0 by omega))
  have HB5 := hid (HB.out.setCell (p := ⟨s0, 12, none⟩) (by show w.heap.size ≤ s0; omega) (.int .i64 (-1)))
  go_upto_region 44 with fail
  generalize W.setCell ⟨s0, 12, none⟩ (.int .i64 (-1)) = w5 at *
  clear c0 f0 l0
  obtain ⟨cs2, hcs2⟩ : ∃ cs2, ndC { n with span := -1 } (.slice Aw lw cw) (.slice Ak lk ck) = cs2 := ⟨_, rfl⟩
  have hcl2 : cs2.length = 19 := by rw [← hcs2]; rfl
  have h1c : cs2.toArray.all (·.oneCell') = true := by rw [← hcs2]; exact ndC_one _
  have hn5 := HN5.out
  unfold NBox at hn5
  rw [hcs2] at hn5
  have HM5 := hid hn5
  have HCS2 := hid hcs2
  have H1C := hid h1c
  have HZS := hid (show zc.size = cs2.toArray.size from ((congrArg Array.size HZC.out).trans rfl).trans (List.size_toArray.trans hcl2).symm)
  clear hn5 hcs2 h1c
  go_wp2_with (first
    | (refine load_box rfl (.tmp 2) rfl s0 rfl cs2 hcl2 HM5.out ?_)
    | (refine wpList_store_row rfl 39 (.tmp 4) (.tmp 88) rfl (s0 + 1) cs2.toArray rfl rfl 39 zc HR5.out (by rw [List.size_toArray, hcl2]; exact info_node) HZS.out H1C.out ?_))
  have t1 : Turn (fun k => k = s0 + 1) w5 (w5.setRow (s0 + 1) cs2.toArray) := Turn.row w5 _ _
  have hrow := setRow_heap w5 (s0 + 1) zc cs2.toArray 39 (0, 0) HR5.out
  have b5 := below_turn HB5.out (Nat.le_refl _) t1 (fun k hk => by have := HS.out; omega)
  have HF := hid (show BeyP w nd' (.slice Aw lw cw) (.slice Ak lk ck) False (.returned (.agg cs2.toArray)) (w5.setRow (s0 + 1) cs2.toArray) from ⟨.slice Aw lw cw, by rw [← HCS2.out, ← HND.out]; rfl, b5, .inl ⟨rfl, id⟩⟩)
  have HROW := hid hrow
  clear t1 hrow b5
  generalize w5.setRow (s0 + 1) cs2.toArray = E at *
  refine bodyPost_ret (v := .agg cs2.toArray) (results_cell_row Tryd.results16 _ E (s0 + 1) 39 cs2.toArray (0, 0) _ rfl HROW.out rfl rfl (by rw [List.size_toArray, hcl2]; exact info_node)) rfl HF.out
theorem bey_10 (n : Nd) (Aw Ak : Option Addr) (lw cw lk ck : Nat) (w : World) (ca : List Value) (hca : ndC n (.slice Aw lw cw) (.slice Ak lk ck) = ca) :
    Calls Tryd.prog 16 #[.agg ca.toArray, .int .i64 10] w (BeyP w (byN n 10) (.slice Aw lw cw) (.slice Ak lk ck) False) := by
  obtain ⟨nd', hnd⟩ : ∃ nd' : Nd, byN n 10 = nd' := ⟨_, rfl⟩
  rw [hnd]
  have HND := hid hnd
  clear hnd
  obtain ⟨s0, hs⟩ : ∃ s0, w.heap.size = s0 := ⟨_, rfl⟩
  have hla : ca.length = 19 := by rw [← hca]; rfl
  have h1a : ca.toArray.all (·.oneCell') = true := by rw [← hca]; exact ndC_one n
  obtain ⟨zc, hzc⟩ : ∃ zc : Array Value, zc = #[.int .u8 0, .string { data := #[] }, .string { data := #[] }, .string { data := #[] }, .int .i64 0, .int .i64 0, .int .i64 0, .int .i64 0, .int .i64 0, .int .i64 0, .bool false, .int .i64 0, .int .i64 0, .int .i64 0, .int .i64 0, .int .i64 0, .bool false, .slice none 0 0, .slice none 0 0] := ⟨_, rfl⟩
  obtain ⟨W, hW⟩ : ∃ W, (w.alloc (.cells ca.toArray 39)).alloc (.cells zc 39) = W := ⟨_, rfl⟩
  have hb : Below w.heap.size w W := by
    rw [← hW]
    exact ((Below.refl _ _).alloc (Nat.le_refl _) _).alloc (by simp) _
  have hN : NBox s0 n (.slice Aw lw cw) (.slice Ak lk ck) W := by
    unfold NBox
    rw [hca, ← hW, ← hs, Below.heap_alloc _ _ _ (by simp)]
    exact World.alloc_heap_new _ _
  have hR : W.heap[s0 + 1]? = some (.cells zc 39 (0, 0)) := by
    rw [← hW, ← hs]
    have := World.alloc_heap_new (w.alloc (.cells ca.toArray 39)) (.cells zc 39)
    rwa [World.size_alloc] at this
  have hsW : W.heap.size = s0 + 2 := by rw [← hW, ← hs]; simp
  have HW := hid hW
  have HB := hid hb
  have HN := hid hN
  have HR := hid hR
  have HSW := hid hsW
  have HS := hid hs
  have HZC := hid hzc
  have hst := store_node w ca hla h1a
  rw [hzc] at HW
  clear hW hb hN hR hca hzc
  go_enter Tryd.func16, Tryd.ntmps16
  go_upto_region 1 with fail
  rw [HW.out]
  clear hst HW
  have c0 := HN.out.cells.2.2.2.2.2.2.2.2.2.2.2.2.2.1
  have f0 := blk_frozen HN.out 13
  have l0 := lt_of_block HN.out
  have HN5 := hid (show NBox s0 { n with gap := 16385 } (.slice Aw lw cw) (.slice Ak lk ck) (W.setCell ⟨s0, 13, none⟩ (.int .i64 16385)) from store_in (i := 13) (u := .int .i64 16385) HN.out)
  have HR5 := hid (store_off (i := 13) (u := .int .i64 16385) HR.out (show s0 + 1 ≠ s0 by omega))
  have HB5 := hid (HB.out.setCell (p := ⟨s0, 13, none⟩) (by show w.heap.size ≤ s0; omega) (.int .i64 16385))
  go_upto_region 44 with fail
  generalize W.setCell ⟨s0, 13, none⟩ (.int .i64 16385) = w5 at *
  clear c0 f0 l0
  obtain ⟨cs2, hcs2⟩ : ∃ cs2, ndC { n with gap := 16385 } (.slice Aw lw cw) (.slice Ak lk ck) = cs2 := ⟨_, rfl⟩
  have hcl2 : cs2.length = 19 := by rw [← hcs2]; rfl
  have h1c : cs2.toArray.all (·.oneCell') = true := by rw [← hcs2]; exact ndC_one _
  have hn5 := HN5.out
  unfold NBox at hn5
  rw [hcs2] at hn5
  have HM5 := hid hn5
  have HCS2 := hid hcs2
  have H1C := hid h1c
  have HZS := hid (show zc.size = cs2.toArray.size from ((congrArg Array.size HZC.out).trans rfl).trans (List.size_toArray.trans hcl2).symm)
  clear hn5 hcs2 h1c
  go_wp2_with (first
    | (refine load_box rfl (.tmp 2) rfl s0 rfl cs2 hcl2 HM5.out ?_)
    | (refine wpList_store_row rfl 39 (.tmp 4) (.tmp 88) rfl (s0 + 1) cs2.toArray rfl rfl 39 zc HR5.out (by rw [List.size_toArray, hcl2]; exact info_node) HZS.out H1C.out ?_))
  have t1 : Turn (fun k => k = s0 + 1) w5 (w5.setRow (s0 + 1) cs2.toArray) := Turn.row w5 _ _
  have hrow := setRow_heap w5 (s0 + 1) zc cs2.toArray 39 (0, 0) HR5.out
  have b5 := below_turn HB5.out (Nat.le_refl _) t1 (fun k hk => by have := HS.out; omega)
  have HF := hid (show BeyP w nd' (.slice Aw lw cw) (.slice Ak lk ck) False (.returned (.agg cs2.toArray)) (w5.setRow (s0 + 1) cs2.toArray) from ⟨.slice Aw lw cw, by rw [← HCS2.out, ← HND.out]; rfl, b5, .inl ⟨rfl, id⟩⟩)
  have HROW := hid hrow
  clear t1 hrow b5
  generalize w5.setRow (s0 + 1) cs2.toArray = E at *
  refine bodyPost_ret (v := .agg cs2.toArray) (results_cell_row Tryd.results16 _ E (s0 + 1) 39 cs2.toArray (0, 0) _ rfl HROW.out rfl rfl (by rw [List.size_toArray, hcl2]; exact info_node)) rfl HF.out
theorem bey_11 (n : Nd) (Aw Ak : Option Addr) (lw cw lk ck : Nat) (w : World) (ca : List Value) (hca : ndC n (.slice Aw lw cw) (.slice Ak lk ck) = ca) :
    Calls Tryd.prog 16 #[.agg ca.toArray, .int .i64 11] w (BeyP w (byN n 11) (.slice Aw lw cw) (.slice Ak lk ck) False) := by
  obtain ⟨nd', hnd⟩ : ∃ nd' : Nd, byN n 11 = nd' := ⟨_, rfl⟩
  rw [hnd]
  have HND := hid hnd
  clear hnd
  obtain ⟨s0, hs⟩ : ∃ s0, w.heap.size = s0 := ⟨_, rfl⟩
  have hla : ca.length = 19 := by rw [← hca]; rfl
  have h1a : ca.toArray.all (·.oneCell') = true := by rw [← hca]; exact ndC_one n
  obtain ⟨zc, hzc⟩ : ∃ zc : Array Value, zc = #[.int .u8 0, .string { data := #[] }, .string { data := #[] }, .string { data := #[] }, .int .i64 0, .int .i64 0, .int .i64 0, .int .i64 0, .int .i64 0, .int .i64 0, .bool false, .int .i64 0, .int .i64 0, .int .i64 0, .int .i64 0, .int .i64 0, .bool false, .slice none 0 0, .slice none 0 0] := ⟨_, rfl⟩
  obtain ⟨W, hW⟩ : ∃ W, (w.alloc (.cells ca.toArray 39)).alloc (.cells zc 39) = W := ⟨_, rfl⟩
  have hb : Below w.heap.size w W := by
    rw [← hW]
    exact ((Below.refl _ _).alloc (Nat.le_refl _) _).alloc (by simp) _
  have hN : NBox s0 n (.slice Aw lw cw) (.slice Ak lk ck) W := by
    unfold NBox
    rw [hca, ← hW, ← hs, Below.heap_alloc _ _ _ (by simp)]
    exact World.alloc_heap_new _ _
  have hR : W.heap[s0 + 1]? = some (.cells zc 39 (0, 0)) := by
    rw [← hW, ← hs]
    have := World.alloc_heap_new (w.alloc (.cells ca.toArray 39)) (.cells zc 39)
    rwa [World.size_alloc] at this
  have hsW : W.heap.size = s0 + 2 := by rw [← hW, ← hs]; simp
  have HW := hid hW
  have HB := hid hb
  have HN := hid hN
  have HR := hid hR
  have HSW := hid hsW
  have HS := hid hs
  have HZC := hid hzc
  have hst := store_node w ca hla h1a
  rw [hzc] at HW
  clear hW hb hN hR hca hzc
  go_enter Tryd.func16, Tryd.ntmps16
  go_upto_region 1 with fail
  rw [HW.out]
  clear hst HW
  have c0 := HN.out.cells.2.2.2.2.2.2.2.2.2.2.2.2.2.2.2.1
  have f0 := blk_frozen HN.out 15
  have l0 := lt_of_block HN.out
  have HN5 := hid (show NBox s0 { n with oy := 1048577 } (.slice Aw lw cw) (.slice Ak lk ck) (W.setCell ⟨s0, 15, none⟩ (.int .i64 1048577)) from store_in (i := 15) (u := .int .i64 1048577) HN.out)
  have HR5 := hid (store_off (i := 15) (u := .int .i64 1048577) HR.out (show s0 + 1 ≠ s0 by omega))
  have HB5 := hid (HB.out.setCell (p := ⟨s0, 15, none⟩) (by show w.heap.size ≤ s0; omega) (.int .i64 1048577))
  go_upto_region 44 with fail
  generalize W.setCell ⟨s0, 15, none⟩ (.int .i64 1048577) = w5 at *
  clear c0 f0 l0
  obtain ⟨cs2, hcs2⟩ : ∃ cs2, ndC { n with oy := 1048577 } (.slice Aw lw cw) (.slice Ak lk ck) = cs2 := ⟨_, rfl⟩
  have hcl2 : cs2.length = 19 := by rw [← hcs2]; rfl
  have h1c : cs2.toArray.all (·.oneCell') = true := by rw [← hcs2]; exact ndC_one _
  have hn5 := HN5.out
  unfold NBox at hn5
  rw [hcs2] at hn5
  have HM5 := hid hn5
  have HCS2 := hid hcs2
  have H1C := hid h1c
  have HZS := hid (show zc.size = cs2.toArray.size from ((congrArg Array.size HZC.out).trans rfl).trans (List.size_toArray.trans hcl2).symm)
  clear hn5 hcs2 h1c
  go_wp2_with (first
    | (refine load_box rfl (.tmp 2) rfl s0 rfl cs2 hcl2 HM5.out ?_)
    | (refine wpList_store_row rfl 39 (.tmp 4) (.tmp 88) rfl (s0 + 1) cs2.toArray rfl rfl 39 zc HR5.out (by rw [List.size_toArray, hcl2]; exact info_node) HZS.out H1C.out ?_))
  have t1 : Turn (fun k => k = s0 + 1) w5 (w5.setRow (s0 + 1) cs2.toArray) := Turn.row w5 _ _
  have hrow := setRow_heap w5 (s0 + 1) zc cs2.toArray 39 (0, 0) HR5.out
  have b5 := below_turn HB5.out (Nat.le_refl _) t1 (fun k hk => by have := HS.out; omega)
  have HF := hid (show BeyP w nd' (.slice Aw lw cw) (.slice Ak lk ck) False (.returned (.agg cs2.toArray)) (w5.setRow (s0 + 1) cs2.toArray) from ⟨.slice Aw lw cw, by rw [← HCS2.out, ← HND.out]; rfl, b5, .inl ⟨rfl, id⟩⟩)
  have HROW := hid hrow
  clear t1 hrow b5
  generalize w5.setRow (s0 + 1) cs2.toArray = E at *
  refine bodyPost_ret (v := .agg cs2.toArray) (results_cell_row Tryd.results16 _ E (s0 + 1) 39 cs2.toArray (0, 0) _ rfl HROW.out rfl rfl (by rw [List.size_toArray, hcl2]; exact info_node)) rfl HF.out
end Go.Proofs.YtnkojoajcdhngaaDoor

/- Layer 8: beyond, case by case. Written by gen_tr44.py. -/
namespace Go.Proofs.YtnkojoajcdhngaaDoor
set_option linter.unusedVariables false
set_option linter.unusedSimpArgs false
set_option maxRecDepth 100000
open Go.RowKit Go.Shelf Go.Lib
attribute [local go_sem] Oper.semAt_some
set_option maxRecDepth 100000
set_option maxHeartbeats 16000000

theorem bey_13 (n : Nd) (Aw Ak : Option Addr) (lw cw lk ck : Nat) (w : World) (ca : List Value) (hca : ndC n (.slice Aw lw cw) (.slice Ak lk ck) = ca) :
    Calls Tryd.prog 16 #[.agg ca.toArray, .int .i64 13] w (BeyP w (byN n 13) (.slice Aw lw cw) (.slice Ak lk ck) False) := by
  obtain ⟨nd', hnd⟩ : ∃ nd' : Nd, byN n 13 = nd' := ⟨_, rfl⟩
  rw [hnd]
  have HND := hid hnd
  clear hnd
  obtain ⟨s0, hs⟩ : ∃ s0, w.heap.size = s0 := ⟨_, rfl⟩
  have hla : ca.length = 19 := by rw [← hca]; rfl
  have h1a : ca.toArray.all (·.oneCell') = true := by rw [← hca]; exact ndC_one n
  obtain ⟨zc, hzc⟩ : ∃ zc : Array Value, zc = #[.int .u8 0, .string { data := #[] }, .string { data := #[] }, .string { data := #[] }, .int .i64 0, .int .i64 0, .int .i64 0, .int .i64 0, .int .i64 0, .int .i64 0, .bool false, .int .i64 0, .int .i64 0, .int .i64 0, .int .i64 0, .int .i64 0, .bool false, .slice none 0 0, .slice none 0 0] := ⟨_, rfl⟩
  obtain ⟨W, hW⟩ : ∃ W, (w.alloc (.cells ca.toArray 39)).alloc (.cells zc 39) = W := ⟨_, rfl⟩
  have hb : Below w.heap.size w W := by
    rw [← hW]
    exact ((Below.refl _ _).alloc (Nat.le_refl _) _).alloc (by simp) _
  have hN : NBox s0 n (.slice Aw lw cw) (.slice Ak lk ck) W := by
    unfold NBox
    rw [hca, ← hW, ← hs, Below.heap_alloc _ _ _ (by simp)]
    exact World.alloc_heap_new _ _
  have hR : W.heap[s0 + 1]? = some (.cells zc 39 (0, 0)) := by
    rw [← hW, ← hs]
    have := World.alloc_heap_new (w.alloc (.cells ca.toArray 39)) (.cells zc 39)
    rwa [World.size_alloc] at this
  have hsW : W.heap.size = s0 + 2 := by rw [← hW, ← hs]; simp
  have HW := hid hW
  have HB := hid hb
  have HN := hid hN
  have HR := hid hR
  have HSW := hid hsW
  have HS := hid hs
  have HZC := hid hzc
  have hst := store_node w ca hla h1a
  rw [hzc] at HW
  clear hW hb hN hR hca hzc
  go_enter Tryd.func16, Tryd.ntmps16
  go_upto_region 1 with fail
  rw [HW.out]
  clear hst HW
  have c0 := HN.out.cells.2.1
  have f0 := blk_frozen HN.out 1
  have l0 := lt_of_block HN.out
  have HN5 := hid (show NBox s0 { n with name := ⟨#[255]⟩ } (.slice Aw lw cw) (.slice Ak lk ck) (W.setCell ⟨s0, 1, none⟩ (.string ⟨#[255]⟩)) from store_in (i := 1) (u := .string ⟨#[255]⟩) HN.out)
  have HR5 := hid (store_off (i := 1) (u := .string ⟨#[255]⟩) HR.out (show s0 + 1 ≠ s0 by omega))
  have HB5 := hid (HB.out.setCell (p := ⟨s0, 1, none⟩) (by show w.heap.size ≤ s0; omega) (.string ⟨#[255]⟩))
  go_upto_region 44 with fail
  generalize W.setCell ⟨s0, 1, none⟩ (.string ⟨#[255]⟩) = w5 at *
  clear c0 f0 l0
  obtain ⟨cs2, hcs2⟩ : ∃ cs2, ndC { n with name := ⟨#[255]⟩ } (.slice Aw lw cw) (.slice Ak lk ck) = cs2 := ⟨_, rfl⟩
  have hcl2 : cs2.length = 19 := by rw [← hcs2]; rfl
  have h1c : cs2.toArray.all (·.oneCell') = true := by rw [← hcs2]; exact ndC_one _
  have hn5 := HN5.out
  unfold NBox at hn5
  rw [hcs2] at hn5
  have HM5 := hid hn5
  have HCS2 := hid hcs2
  have H1C := hid h1c
  have HZS := hid (show zc.size = cs2.toArray.size from ((congrArg Array.size HZC.out).trans rfl).trans (List.size_toArray.trans hcl2).symm)
  clear hn5 hcs2 h1c
  go_wp2_with (first
    | (refine load_box rfl (.tmp 2) rfl s0 rfl cs2 hcl2 HM5.out ?_)
    | (refine wpList_store_row rfl 39 (.tmp 4) (.tmp 88) rfl (s0 + 1) cs2.toArray rfl rfl 39 zc HR5.out (by rw [List.size_toArray, hcl2]; exact info_node) HZS.out H1C.out ?_))
  have t1 : Turn (fun k => k = s0 + 1) w5 (w5.setRow (s0 + 1) cs2.toArray) := Turn.row w5 _ _
  have hrow := setRow_heap w5 (s0 + 1) zc cs2.toArray 39 (0, 0) HR5.out
  have b5 := below_turn HB5.out (Nat.le_refl _) t1 (fun k hk => by have := HS.out; omega)
  have HF := hid (show BeyP w nd' (.slice Aw lw cw) (.slice Ak lk ck) False (.returned (.agg cs2.toArray)) (w5.setRow (s0 + 1) cs2.toArray) from ⟨.slice Aw lw cw, by rw [← HCS2.out, ← HND.out]; rfl, b5, .inl ⟨rfl, id⟩⟩)
  have HROW := hid hrow
  clear t1 hrow b5
  generalize w5.setRow (s0 + 1) cs2.toArray = E at *
  refine bodyPost_ret (v := .agg cs2.toArray) (results_cell_row Tryd.results16 _ E (s0 + 1) 39 cs2.toArray (0, 0) _ rfl HROW.out rfl rfl (by rw [List.size_toArray, hcl2]; exact info_node)) rfl HF.out
theorem bey_14 (n : Nd) (Aw Ak : Option Addr) (lw cw lk ck : Nat) (w : World) (ca : List Value) (hca : ndC n (.slice Aw lw cw) (.slice Ak lk ck) = ca) :
    Calls Tryd.prog 16 #[.agg ca.toArray, .int .i64 14] w (BeyP w (byN n 14) (.slice Aw lw cw) (.slice Ak lk ck) False) := by
  obtain ⟨nd', hnd⟩ : ∃ nd' : Nd, byN n 14 = nd' := ⟨_, rfl⟩
  rw [hnd]
  have HND := hid hnd
  clear hnd
  obtain ⟨s0, hs⟩ : ∃ s0, w.heap.size = s0 := ⟨_, rfl⟩
  have hla : ca.length = 19 := by rw [← hca]; rfl
  have h1a : ca.toArray.all (·.oneCell') = true := by rw [← hca]; exact ndC_one n
  obtain ⟨zc, hzc⟩ : ∃ zc : Array Value, zc = #[.int .u8 0, .string { data := #[] }, .string { data := #[] }, .string { data := #[] }, .int .i64 0, .int .i64 0, .int .i64 0, .int .i64 0, .int .i64 0, .int .i64 0, .bool false, .int .i64 0, .int .i64 0, .int .i64 0, .int .i64 0, .int .i64 0, .bool false, .slice none 0 0, .slice none 0 0] := ⟨_, rfl⟩
  obtain ⟨W, hW⟩ : ∃ W, (w.alloc (.cells ca.toArray 39)).alloc (.cells zc 39) = W := ⟨_, rfl⟩
  have hb : Below w.heap.size w W := by
    rw [← hW]
    exact ((Below.refl _ _).alloc (Nat.le_refl _) _).alloc (by simp) _
  have hN : NBox s0 n (.slice Aw lw cw) (.slice Ak lk ck) W := by
    unfold NBox
    rw [hca, ← hW, ← hs, Below.heap_alloc _ _ _ (by simp)]
    exact World.alloc_heap_new _ _
  have hR : W.heap[s0 + 1]? = some (.cells zc 39 (0, 0)) := by
    rw [← hW, ← hs]
    have := World.alloc_heap_new (w.alloc (.cells ca.toArray 39)) (.cells zc 39)
    rwa [World.size_alloc] at this
  have hsW : W.heap.size = s0 + 2 := by rw [← hW, ← hs]; simp
  have HW := hid hW
  have HB := hid hb
  have HN := hid hN
  have HR := hid hR
  have HSW := hid hsW
  have HS := hid hs
  have HZC := hid hzc
  have hst := store_node w ca hla h1a
  rw [hzc] at HW
  clear hW hb hN hR hca hzc
  go_enter Tryd.func16, Tryd.ntmps16
  go_upto_region 1 with fail
  rw [HW.out]
  clear hst HW
  have c0 := HN.out.cells.1
  have f0 := blk_frozen HN.out 0
  have l0 := lt_of_block HN.out
  have HN5 := hid (show NBox s0 { n with kind := 11 } (.slice Aw lw cw) (.slice Ak lk ck) (W.setCell ⟨s0, 0, none⟩ (.int .u8 11)) from store_in (i := 0) (u := .int .u8 11) HN.out)
  have HR5 := hid (store_off (i := 0) (u := .int .u8 11) HR.out (show s0 + 1 ≠ s0 by omega))
  have HB5 := hid (HB.out.setCell (p := ⟨s0, 0, none⟩) (by show w.heap.size ≤ s0; omega) (.int .u8 11))
  go_upto_region 44 with fail
  generalize W.setCell ⟨s0, 0, none⟩ (.int .u8 11) = w5 at *
  clear c0 f0 l0
  obtain ⟨cs2, hcs2⟩ : ∃ cs2, ndC { n with kind := 11 } (.slice Aw lw cw) (.slice Ak lk ck) = cs2 := ⟨_, rfl⟩
  have hcl2 : cs2.length = 19 := by rw [← hcs2]; rfl
  have h1c : cs2.toArray.all (·.oneCell') = true := by rw [← hcs2]; exact ndC_one _
  have hn5 := HN5.out
  unfold NBox at hn5
  rw [hcs2] at hn5
  have HM5 := hid hn5
  have HCS2 := hid hcs2
  have H1C := hid h1c
  have HZS := hid (show zc.size = cs2.toArray.size from ((congrArg Array.size HZC.out).trans rfl).trans (List.size_toArray.trans hcl2).symm)
  clear hn5 hcs2 h1c
  go_wp2_with (first
    | (refine load_box rfl (.tmp 2) rfl s0 rfl cs2 hcl2 HM5.out ?_)
    | (refine wpList_store_row rfl 39 (.tmp 4) (.tmp 88) rfl (s0 + 1) cs2.toArray rfl rfl 39 zc HR5.out (by rw [List.size_toArray, hcl2]; exact info_node) HZS.out H1C.out ?_))
  have t1 : Turn (fun k => k = s0 + 1) w5 (w5.setRow (s0 + 1) cs2.toArray) := Turn.row w5 _ _
  have hrow := setRow_heap w5 (s0 + 1) zc cs2.toArray 39 (0, 0) HR5.out
  have b5 := below_turn HB5.out (Nat.le_refl _) t1 (fun k hk => by have := HS.out; omega)
  have HF := hid (show BeyP w nd' (.slice Aw lw cw) (.slice Ak lk ck) False (.returned (.agg cs2.toArray)) (w5.setRow (s0 + 1) cs2.toArray) from ⟨.slice Aw lw cw, by rw [← HCS2.out, ← HND.out]; rfl, b5, .inl ⟨rfl, id⟩⟩)
  have HROW := hid hrow
  clear t1 hrow b5
  generalize w5.setRow (s0 + 1) cs2.toArray = E at *
  refine bodyPost_ret (v := .agg cs2.toArray) (results_cell_row Tryd.results16 _ E (s0 + 1) 39 cs2.toArray (0, 0) _ rfl HROW.out rfl rfl (by rw [List.size_toArray, hcl2]; exact info_node)) rfl HF.out
theorem bey_15 (n : Nd) (Aw Ak : Option Addr) (lw cw lk ck : Nat) (w : World) (ca : List Value) (hca : ndC n (.slice Aw lw cw) (.slice Ak lk ck) = ca) :
    Calls Tryd.prog 16 #[.agg ca.toArray, .int .i64 15] w (BeyP w (byN n 15) (.slice Aw lw cw) (.slice Ak lk ck) False) := by
  obtain ⟨nd', hnd⟩ : ∃ nd' : Nd, byN n 15 = nd' := ⟨_, rfl⟩
  rw [hnd]
  have HND := hid hnd
  clear hnd
  obtain ⟨s0, hs⟩ : ∃ s0, w.heap.size = s0 := ⟨_, rfl⟩
  have hla : ca.length = 19 := by rw [← hca]; rfl
  have h1a : ca.toArray.all (·.oneCell') = true := by rw [← hca]; exact ndC_one n
  obtain ⟨zc, hzc⟩ : ∃ zc : Array Value, zc = #[.int .u8 0, .string { data := #[] }, .string { data := #[] }, .string { data := #[] }, .int .i64 0, .int .i64 0, .int .i64 0, .int .i64 0, .int .i64 0, .int .i64 0, .bool false, .int .i64 0, .int .i64 0, .int .i64 0, .int .i64 0, .int .i64 0, .bool false, .slice none 0 0, .slice none 0 0] := ⟨_, rfl⟩
  obtain ⟨W, hW⟩ : ∃ W, (w.alloc (.cells ca.toArray 39)).alloc (.cells zc 39) = W := ⟨_, rfl⟩
  have hb : Below w.heap.size w W := by
    rw [← hW]
    exact ((Below.refl _ _).alloc (Nat.le_refl _) _).alloc (by simp) _
  have hN : NBox s0 n (.slice Aw lw cw) (.slice Ak lk ck) W := by
    unfold NBox
    rw [hca, ← hW, ← hs, Below.heap_alloc _ _ _ (by simp)]
    exact World.alloc_heap_new _ _
  have hR : W.heap[s0 + 1]? = some (.cells zc 39 (0, 0)) := by
    rw [← hW, ← hs]
    have := World.alloc_heap_new (w.alloc (.cells ca.toArray 39)) (.cells zc 39)
    rwa [World.size_alloc] at this
  have hsW : W.heap.size = s0 + 2 := by rw [← hW, ← hs]; simp
  have HW := hid hW
  have HB := hid hb
  have HN := hid hN
  have HR := hid hR
  have HSW := hid hsW
  have HS := hid hs
  have HZC := hid hzc
  have hst := store_node w ca hla h1a
  rw [hzc] at HW
  clear hW hb hN hR hca hzc
  go_enter Tryd.func16, Tryd.ntmps16
  go_upto_region 1 with fail
  rw [HW.out]
  clear hst HW
  have c0 := HN.out.cells.2.2.2.2.2.2.2.2.2.1
  have f0 := blk_frozen HN.out 9
  have l0 := lt_of_block HN.out
  have HN5 := hid (show NBox s0 { n with order := -2 } (.slice Aw lw cw) (.slice Ak lk ck) (W.setCell ⟨s0, 9, none⟩ (.int .i64 (-2))) from store_in (i := 9) (u := .int .i64 (-2)) HN.out)
  have HR5 := hid (store_off (i := 9) (u := .int .i64 (-2)) HR.out (show s0 + 1 ≠ s0 by omega))
  have HB5 := hid (HB.out.setCell (p := ⟨s0, 9, none⟩) (by show w.heap.size ≤ s0; omega) (.int .i64 (-2)))
  go_upto_region 44 with fail
  generalize W.setCell ⟨s0, 9, none⟩ (.int .i64 (-2)) = w5 at *
  clear c0 f0 l0
  obtain ⟨cs2, hcs2⟩ : ∃ cs2, ndC { n with order := -2 } (.slice Aw lw cw) (.slice Ak lk ck) = cs2 := ⟨_, rfl⟩
  have hcl2 : cs2.length = 19 := by rw [← hcs2]; rfl
  have h1c : cs2.toArray.all (·.oneCell') = true := by rw [← hcs2]; exact ndC_one _
  have hn5 := HN5.out
  unfold NBox at hn5
  rw [hcs2] at hn5
  have HM5 := hid hn5
  have HCS2 := hid hcs2
  have H1C := hid h1c
  have HZS := hid (show zc.size = cs2.toArray.size from ((congrArg Array.size HZC.out).trans rfl).trans (List.size_toArray.trans hcl2).symm)
  clear hn5 hcs2 h1c
  go_wp2_with (first
    | (refine load_box rfl (.tmp 2) rfl s0 rfl cs2 hcl2 HM5.out ?_)
    | (refine wpList_store_row rfl 39 (.tmp 4) (.tmp 88) rfl (s0 + 1) cs2.toArray rfl rfl 39 zc HR5.out (by rw [List.size_toArray, hcl2]; exact info_node) HZS.out H1C.out ?_))
  have t1 : Turn (fun k => k = s0 + 1) w5 (w5.setRow (s0 + 1) cs2.toArray) := Turn.row w5 _ _
  have hrow := setRow_heap w5 (s0 + 1) zc cs2.toArray 39 (0, 0) HR5.out
  have b5 := below_turn HB5.out (Nat.le_refl _) t1 (fun k hk => by have := HS.out; omega)
  have HF := hid (show BeyP w nd' (.slice Aw lw cw) (.slice Ak lk ck) False (.returned (.agg cs2.toArray)) (w5.setRow (s0 + 1) cs2.toArray) from ⟨.slice Aw lw cw, by rw [← HCS2.out, ← HND.out]; rfl, b5, .inl ⟨rfl, id⟩⟩)
  have HROW := hid hrow
  clear t1 hrow b5
  generalize w5.setRow (s0 + 1) cs2.toArray = E at *
  refine bodyPost_ret (v := .agg cs2.toArray) (results_cell_row Tryd.results16 _ E (s0 + 1) 39 cs2.toArray (0, 0) _ rfl HROW.out rfl rfl (by rw [List.size_toArray, hcl2]; exact info_node)) rfl HF.out
theorem bey_16 (n : Nd) (Aw Ak : Option Addr) (lw cw lk ck : Nat) (w : World) (ca : List Value) (hca : ndC n (.slice Aw lw cw) (.slice Ak lk ck) = ca) :
    Calls Tryd.prog 16 #[.agg ca.toArray, .int .i64 16] w (BeyP w (byN n 16) (.slice Aw lw cw) (.slice Ak lk ck) False) := by
  obtain ⟨nd', hnd⟩ : ∃ nd' : Nd, byN n 16 = nd' := ⟨_, rfl⟩
  rw [hnd]
  have HND := hid hnd
  clear hnd
  obtain ⟨s0, hs⟩ : ∃ s0, w.heap.size = s0 := ⟨_, rfl⟩
  have hla : ca.length = 19 := by rw [← hca]; rfl
  have h1a : ca.toArray.all (·.oneCell') = true := by rw [← hca]; exact ndC_one n
  obtain ⟨zc, hzc⟩ : ∃ zc : Array Value, zc = #[.int .u8 0, .string { data := #[] }, .string { data := #[] }, .string { data := #[] }, .int .i64 0, .int .i64 0, .int .i64 0, .int .i64 0, .int .i64 0, .int .i64 0, .bool false, .int .i64 0, .int .i64 0, .int .i64 0, .int .i64 0, .int .i64 0, .bool false, .slice none 0 0, .slice none 0 0] := ⟨_, rfl⟩
  obtain ⟨W, hW⟩ : ∃ W, (w.alloc (.cells ca.toArray 39)).alloc (.cells zc 39) = W := ⟨_, rfl⟩
  have hb : Below w.heap.size w W := by
    rw [← hW]
    exact ((Below.refl _ _).alloc (Nat.le_refl _) _).alloc (by simp) _
  have hN : NBox s0 n (.slice Aw lw cw) (.slice Ak lk ck) W := by
    unfold NBox
    rw [hca, ← hW, ← hs, Below.heap_alloc _ _ _ (by simp)]
    exact World.alloc_heap_new _ _
  have hR : W.heap[s0 + 1]? = some (.cells zc 39 (0, 0)) := by
    rw [← hW, ← hs]
    have := World.alloc_heap_new (w.alloc (.cells ca.toArray 39)) (.cells zc 39)
    rwa [World.size_alloc] at this
  have hsW : W.heap.size = s0 + 2 := by rw [← hW, ← hs]; simp
  have HW := hid hW
  have HB := hid hb
  have HN := hid hN
  have HR := hid hR
  have HSW := hid hsW
  have HS := hid hs
  have HZC := hid hzc
  have hst := store_node w ca hla h1a
  rw [hzc] at HW
  clear hW hb hN hR hca hzc
  go_enter Tryd.func16, Tryd.ntmps16
  go_upto_region 1 with fail
  rw [HW.out]
  clear hst HW
  have c0 := HN.out.cells.2.2.2.2.2.2.2.1
  have f0 := blk_frozen HN.out 7
  have l0 := lt_of_block HN.out
  have HN5 := hid (show NBox s0 { n with xh := 16383 } (.slice Aw lw cw) (.slice Ak lk ck) (W.setCell ⟨s0, 7, none⟩ (.int .i64 16383)) from store_in (i := 7) (u := .int .i64 16383) HN.out)
  have HR5 := hid (store_off (i := 7) (u := .int .i64 16383) HR.out (show s0 + 1 ≠ s0 by omega))
  have HB5 := hid (HB.out.setCell (p := ⟨s0, 7, none⟩) (by show w.heap.size ≤ s0; omega) (.int .i64 16383))
  go_upto_region 44 with fail
  generalize W.setCell ⟨s0, 7, none⟩ (.int .i64 16383) = w5 at *
  clear c0 f0 l0
  obtain ⟨cs2, hcs2⟩ : ∃ cs2, ndC { n with xh := 16383 } (.slice Aw lw cw) (.slice Ak lk ck) = cs2 := ⟨_, rfl⟩
  have hcl2 : cs2.length = 19 := by rw [← hcs2]; rfl
  have h1c : cs2.toArray.all (·.oneCell') = true := by rw [← hcs2]; exact ndC_one _
  have hn5 := HN5.out
  unfold NBox at hn5
  rw [hcs2] at hn5
  have HM5 := hid hn5
  have HCS2 := hid hcs2
  have H1C := hid h1c
  have HZS := hid (show zc.size = cs2.toArray.size from ((congrArg Array.size HZC.out).trans rfl).trans (List.size_toArray.trans hcl2).symm)
  clear hn5 hcs2 h1c
  go_wp2_with (first
    | (refine load_box rfl (.tmp 2) rfl s0 rfl cs2 hcl2 HM5.out ?_)
    | (refine wpList_store_row rfl 39 (.tmp 4) (.tmp 88) rfl (s0 + 1) cs2.toArray rfl rfl 39 zc HR5.out (by rw [List.size_toArray, hcl2]; exact info_node) HZS.out H1C.out ?_))
  have t1 : Turn (fun k => k = s0 + 1) w5 (w5.setRow (s0 + 1) cs2.toArray) := Turn.row w5 _ _
  have hrow := setRow_heap w5 (s0 + 1) zc cs2.toArray 39 (0, 0) HR5.out
  have b5 := below_turn HB5.out (Nat.le_refl _) t1 (fun k hk => by have := HS.out; omega)
  have HF := hid (show BeyP w nd' (.slice Aw lw cw) (.slice Ak lk ck) False (.returned (.agg cs2.toArray)) (w5.setRow (s0 + 1) cs2.toArray) from ⟨.slice Aw lw cw, by rw [← HCS2.out, ← HND.out]; rfl, b5, .inl ⟨rfl, id⟩⟩)
  have HROW := hid hrow
  clear t1 hrow b5
  generalize w5.setRow (s0 + 1) cs2.toArray = E at *
  refine bodyPost_ret (v := .agg cs2.toArray) (results_cell_row Tryd.results16 _ E (s0 + 1) 39 cs2.toArray (0, 0) _ rfl HROW.out rfl rfl (by rw [List.size_toArray, hcl2]; exact info_node)) rfl HF.out
theorem bey_19 (n : Nd) (Aw Ak : Option Addr) (lw cw lk ck : Nat) (w : World) (ca : List Value) (hca : ndC n (.slice Aw lw cw) (.slice Ak lk ck) = ca) :
    Calls Tryd.prog 16 #[.agg ca.toArray, .int .i64 19] w (BeyP w (byN n 19) (.slice Aw lw cw) (.slice Ak lk ck) False) := by
  obtain ⟨nd', hnd⟩ : ∃ nd' : Nd, byN n 19 = nd' := ⟨_, rfl⟩
  rw [hnd]
  have HND := hid hnd
  clear hnd
  obtain ⟨s0, hs⟩ : ∃ s0, w.heap.size = s0 := ⟨_, rfl⟩
  have hla : ca.length = 19 := by rw [← hca]; rfl
  have h1a : ca.toArray.all (·.oneCell') = true := by rw [← hca]; exact ndC_one n
  obtain ⟨zc, hzc⟩ : ∃ zc : Array Value, zc = #[.int .u8 0, .string { data := #[] }, .string { data := #[] }, .string { data := #[] }, .int .i64 0, .int .i64 0, .int .i64 0, .int .i64 0, .int .i64 0, .int .i64 0, .bool false, .int .i64 0, .int .i64 0, .int .i64 0, .int .i64 0, .int .i64 0, .bool false, .slice none 0 0, .slice none 0 0] := ⟨_, rfl⟩
  obtain ⟨W, hW⟩ : ∃ W, (w.alloc (.cells ca.toArray 39)).alloc (.cells zc 39) = W := ⟨_, rfl⟩
  have hb : Below w.heap.size w W := by
    rw [← hW]
    exact ((Below.refl _ _).alloc (Nat.le_refl _) _).alloc (by simp) _
  have hN : NBox s0 n (.slice Aw lw cw) (.slice Ak lk ck) W := by
    unfold NBox
    rw [hca, ← hW, ← hs, Below.heap_alloc _ _ _ (by simp)]
    exact World.alloc_heap_new _ _
  have hR : W.heap[s0 + 1]? = some (.cells zc 39 (0, 0)) := by
    rw [← hW, ← hs]
    have := World.alloc_heap_new (w.alloc (.cells ca.toArray 39)) (.cells zc 39)
    rwa [World.size_alloc] at this
  have hsW : W.heap.size = s0 + 2 := by rw [← hW, ← hs]; simp
  have HW := hid hW
  have HB := hid hb
  have HN := hid hN
  have HR := hid hR
  have HSW := hid hsW
  have HS := hid hs
  have HZC := hid hzc
  have hst := store_node w ca hla h1a
  rw [hzc] at HW
  clear hW hb hN hR hca hzc
  go_enter Tryd.func16, Tryd.ntmps16
  go_upto_region 1 with fail
  rw [HW.out]
  clear hst HW
  have c0 := HN.out.cells.1
  have f0 := blk_frozen HN.out 0
  have l0 := lt_of_block HN.out
  have HN5 := hid (show NBox s0 { n with kind := 0 } (.slice Aw lw cw) (.slice Ak lk ck) (W.setCell ⟨s0, 0, none⟩ (.int .u8 0)) from store_in (i := 0) (u := .int .u8 0) HN.out)
  have HR5 := hid (store_off (i := 0) (u := .int .u8 0) HR.out (show s0 + 1 ≠ s0 by omega))
  have HB5 := hid (HB.out.setCell (p := ⟨s0, 0, none⟩) (by show w.heap.size ≤ s0; omega) (.int .u8 0))
  go_upto_region 44 with fail
  generalize W.setCell ⟨s0, 0, none⟩ (.int .u8 0) = w5 at *
  clear c0 f0 l0
  obtain ⟨cs2, hcs2⟩ : ∃ cs2, ndC { n with kind := 0 } (.slice Aw lw cw) (.slice Ak lk ck) = cs2 := ⟨_, rfl⟩
  have hcl2 : cs2.length = 19 := by rw [← hcs2]; rfl
  have h1c : cs2.toArray.all (·.oneCell') = true := by rw [← hcs2]; exact ndC_one _
  have hn5 := HN5.out
  unfold NBox at hn5
  rw [hcs2] at hn5
  have HM5 := hid hn5
  have HCS2 := hid hcs2
  have H1C := hid h1c
  have HZS := hid (show zc.size = cs2.toArray.size from ((congrArg Array.size HZC.out).trans rfl).trans (List.size_toArray.trans hcl2).symm)
  clear hn5 hcs2 h1c
  go_wp2_with (first
    | (refine load_box rfl (.tmp 2) rfl s0 rfl cs2 hcl2 HM5.out ?_)
    | (refine wpList_store_row rfl 39 (.tmp 4) (.tmp 88) rfl (s0 + 1) cs2.toArray rfl rfl 39 zc HR5.out (by rw [List.size_toArray, hcl2]; exact info_node) HZS.out H1C.out ?_))
  have t1 : Turn (fun k => k = s0 + 1) w5 (w5.setRow (s0 + 1) cs2.toArray) := Turn.row w5 _ _
  have hrow := setRow_heap w5 (s0 + 1) zc cs2.toArray 39 (0, 0) HR5.out
  have b5 := below_turn HB5.out (Nat.le_refl _) t1 (fun k hk => by have := HS.out; omega)
  have HF := hid (show BeyP w nd' (.slice Aw lw cw) (.slice Ak lk ck) False (.returned (.agg cs2.toArray)) (w5.setRow (s0 + 1) cs2.toArray) from ⟨.slice Aw lw cw, by rw [← HCS2.out, ← HND.out]; rfl, b5, .inl ⟨rfl, id⟩⟩)
  have HROW := hid hrow
  clear t1 hrow b5
  generalize w5.setRow (s0 + 1) cs2.toArray = E at *
  refine bodyPost_ret (v := .agg cs2.toArray) (results_cell_row Tryd.results16 _ E (s0 + 1) 39 cs2.toArray (0, 0) _ rfl HROW.out rfl rfl (by rw [List.size_toArray, hcl2]; exact info_node)) rfl HF.out
end Go.Proofs.YtnkojoajcdhngaaDoor

/- Layer 8: beyond, case by case. Written by gen_tr44.py. -/
namespace Go.Proofs.YtnkojoajcdhngaaDoor
set_option linter.unusedVariables false
set_option linter.unusedSimpArgs false
set_option maxRecDepth 100000
open Go.RowKit Go.Shelf Go.Lib
attribute [local go_sem] Oper.semAt_some
set_option maxRecDepth 100000
set_option maxHeartbeats 16000000

def zeroW : Wr := ⟨0, 0, 0, ⟨#[]⟩⟩
def padR (n k : Nat) : List Wr := List.replicate k padW ++ List.replicate (n - k) zeroW
theorem padR_set (n k : Nat) (h : k < n) : (padR n k).set k padW = padR n (k + 1) := by
  unfold padR
  rw [List.set_append_right _ _ (by simp)]
  simp only [List.length_replicate, Nat.sub_self]
  rw [show n - k = (n - (k + 1)) + 1 by omega, List.replicate_succ, List.set_cons_zero, List.replicate_succ' , List.append_assoc]
  rfl
theorem wrs_set : ∀ (l : List Wr) (k : Nat) (t : Wr), ((((wrs l).set (k * 4) (.int .u8 t.k)).set (k * 4 + 1) (.int .u16 t.m)).set (k * 4 + 2) (.int .i64 t.n)).set (k * 4 + 3) (.string t.s) = wrs (l.set k t)
  | [], _, _ => by simp [wrs]
  | c :: l, 0, t => by simp [wrs]
  | c :: l, k + 1, t => by
    have h := wrs_set l k t
    rw [List.set_cons_succ]
    show _ = .int .u8 c.k :: .int .u16 c.m :: .int .i64 c.n :: .string c.s :: wrs (l.set k t)
    rw [← h]
    rw [show (k + 1) * 4 = k * 4 + 1 + 1 + 1 + 1 by omega]
    rfl
theorem own_wrap {w : World} {base g n c : Nat} {l : List Wr} (h : w.ownsRow base 42 4 (.slice (some ⟨g, 0, none⟩) n c) n (wrs l)) (k : Nat) (t : Wr) :
    (w.setCells g (k * 4) [.int .u8 t.k, .int .u16 t.m, .int .i64 t.n, .string t.s]).ownsRow base 42 4 (.slice (some ⟨g, 0, none⟩) n c) n (wrs (l.set k t)) := by
  rw [← wrs_set]
  exact own_store (own_store (own_store (own_store h _ _) _ _) _ _) _ _
theorem below_setCells {B : Nat} {w : World} {g : Nat} (hg : B ≤ g) : ∀ (vs : List Value) (o : Nat) (x : World), Below B w x → Below B w (x.setCells g o vs)
  | [], _, _, h => h
  | v :: r, o, x, h => by
    rw [World.setCells]
    exact below_setCells hg r (o + 1) _ (h.setCell (p := ⟨g, o, none⟩) hg v)
theorem own_there {w : World} {base g n c size : Nat} {e : TypeId} {xs : List Value} (h : w.ownsRow base e size (.slice (some ⟨g, 0, none⟩) n c) n xs) (o m : Nat) (hm : o + m ≤ n * size) : w.there g o m := fun j hj => by
  rw [h.cellAt (o + j) (by omega)]
  refine ⟨?_, h.frozenAt _⟩
  have := h.1
  rw [List.getElem?_eq_getElem (by omega)]
  rfl
theorem sz_wrap : (Tryd.prog.info? 42).map (·.size) = some (#[.int .u8 3, .int .u16 0, .int .i64 0, .string { data := #[] }] : Array Value).size := by kernel_rfl
section
variable {ops : Array Oper} {rest : List Oper} {o : Oper} {a : Act} {Q : Exit → Act → World → Prop} {w : World}
theorem made_16 : (madeCells (Value.agg #[.int .u8 0, .int .u16 0, .int .i64 0, .string { data := #[] }]).cells (16 * 4)).toList = wrs (List.replicate 16 zeroW) := by kernel_rfl
theorem made_17 : (madeCells (Value.agg #[.int .u8 0, .int .u16 0, .int .i64 0, .string { data := #[] }]).cells (17 * 4)).toList = wrs (List.replicate 17 zeroW) := by kernel_rfl
theorem make_wraps (hgd : o.guard = none) (l c : Operand) (ho : o.op = Op.makeSlice 36 l c) (base n : Nat) (hl : a.eval l = .int .i64 n) (hc : a.eval c = .int .i64 n) (hn : n ≤ 1000000) (hm : (madeCells (Value.agg #[.int .u8 0, .int .u16 0, .int .i64 0, .string { data := #[] }]).cells (n * 4)).toList = wrs (List.replicate n zeroW)) (hbase : base ≤ w.heap.size)
    (h : ∀ w', w'.ownsRow base 42 4 (.slice (some ⟨w.heap.size, 0, none⟩) n n) n (wrs (padR n 0)) → w.grownBy w' none → wpList Tryd.prog ops Q rest (a.put o.dst (.slice (some ⟨w.heap.size, 0, none⟩) n n)) w') : wpList Tryd.prog ops Q (o :: rest) a w := by
  obtain ⟨i0, hi, hz0, hz1, hz2⟩ := info_parts info_wrap
  refine wpList_make_full w hgd l c 36 ho base 42 i0 _ 4 Tryd.underlying36 hi hz0 hz1 .i64 .i64 _ _ n hl hc rfl rfl (by rw [hz2]; omega) (by unfold maxLen; omega) hbase (fun w' h4 h5 => ?_)
  refine h w' ?_ h5
  have e : padR n 0 = List.replicate n zeroW := by simp [padR]
  rw [e, ← hm]
  exact h4
end
theorem bey_12 (n : Nd) (Aw Ak : Option Addr) (lw cw lk ck : Nat) (w : World) (ca : List Value) (hca : ndC n (.slice Aw lw cw) (.slice Ak lk ck) = ca) :
    Calls Tryd.prog 16 #[.agg ca.toArray, .int .i64 12] w (BeyP w (byN n 12) (.slice Aw lw cw) (.slice Ak lk ck) True) := by
  obtain ⟨nd', hnd⟩ : ∃ nd' : Nd, byN n 12 = nd' := ⟨_, rfl⟩
  rw [hnd]
  have HND := hid hnd
  clear hnd
  obtain ⟨s0, hs⟩ : ∃ s0, w.heap.size = s0 := ⟨_, rfl⟩
  have hla : ca.length = 19 := by rw [← hca]; rfl
  have h1a : ca.toArray.all (·.oneCell') = true := by rw [← hca]; exact ndC_one n
  obtain ⟨zc, hzc⟩ : ∃ zc : Array Value, zc = #[.int .u8 0, .string { data := #[] }, .string { data := #[] }, .string { data := #[] }, .int .i64 0, .int .i64 0, .int .i64 0, .int .i64 0, .int .i64 0, .int .i64 0, .bool false, .int .i64 0, .int .i64 0, .int .i64 0, .int .i64 0, .int .i64 0, .bool false, .slice none 0 0, .slice none 0 0] := ⟨_, rfl⟩
  obtain ⟨W, hW⟩ : ∃ W, (w.alloc (.cells ca.toArray 39)).alloc (.cells zc 39) = W := ⟨_, rfl⟩
  have hb : Below w.heap.size w W := by
    rw [← hW]
    exact ((Below.refl _ _).alloc (Nat.le_refl _) _).alloc (by simp) _
  have hN : NBox s0 n (.slice Aw lw cw) (.slice Ak lk ck) W := by
    unfold NBox
    rw [hca, ← hW, ← hs, Below.heap_alloc _ _ _ (by simp)]
    exact World.alloc_heap_new _ _
  have hR : W.heap[s0 + 1]? = some (.cells zc 39 (0, 0)) := by
    rw [← hW, ← hs]
    have := World.alloc_heap_new (w.alloc (.cells ca.toArray 39)) (.cells zc 39)
    rwa [World.size_alloc] at this
  have hsW : W.heap.size = s0 + 2 := by rw [← hW, ← hs]; simp
  have HW := hid hW
  have HB := hid hb
  have HN := hid hN
  have HR := hid hR
  have HSW := hid hsW
  have HS := hid hs
  have HZC := hid hzc
  have hst := store_node w ca hla h1a
  rw [hzc] at HW
  clear hW hb hN hR hca hzc
  go_enter Tryd.func16, Tryd.ntmps16
  go_upto_region 1 with fail
  rw [HW.out]
  clear hst HW
  go_wp2_with (refine make_wraps rfl (.const (.int .i64 17)) (.const (.int .i64 17)) rfl (s0 + 2) 17 rfl rfl (by omega) made_17 (by have := HSW.out; omega) ?_)
  intro w1 ho1 hg1
  have hb1 : Below W.heap.size W w1 := (Below.refl _ _).grown hg1 (Nat.le_refl _) (fun k hk => by cases hk)
  have n1 := HN.out.on hb1
  have sW := HSW.out
  have s1 := hb1.size
  have c0 := n1.cells.2.2.2.2.2.2.2.2.2.2.2.2.2.2.2.2.2.1
  have f0 := blk_frozen n1 17
  have l0 := lt_of_block n1
  have HN5 := hid (show NBox s0 n (.slice (some ⟨s0 + 2, 0, none⟩) 17 17) (.slice Ak lk ck) (w1.setCell ⟨s0, 17, none⟩ (.slice (some ⟨s0 + 2, 0, none⟩) 17 17)) from n1.set17 _)
  have HR5 := hid (store_off (i := 17) (u := .slice (some ⟨s0 + 2, 0, none⟩) 17 17) ((hb1.block (s0 + 1) (by omega)).trans HR.out) (show s0 + 1 ≠ s0 by omega))
  have HB5 := hid ((HB.out.trans (hb1.mono HB.out.size)).setCell (p := ⟨s0, 17, none⟩) (by show w.heap.size ≤ s0; omega) (.slice (some ⟨s0 + 2, 0, none⟩) 17 17))
  have HO5 := hid (own_off (g := s0) (j := 17) (u := .slice (some ⟨s0 + 2, 0, none⟩) 17 17) ho1 (fun e => by injection e with e; simp only at e; omega))
  clear hg1 ho1 n1 hb1
  go_upto_region 29 with fail
  generalize w1.setCell ⟨s0, 17, none⟩ (.slice (some ⟨s0 + 2, 0, none⟩) 17 17) = w2 at *
  clear c0 f0 l0
  go_wp2_with fail
  go_loopg [5] 17 (fun gh v5 wr => ∃ k : Nat, v5 = .int .i64 k ∧ k ≤ 17 ∧ 17 - k ≤ gh ∧ Hid (NBox s0 n (.slice (some ⟨s0 + 2, 0, none⟩) 17 17) (.slice Ak lk ck) wr ∧ wr.heap[s0 + 1]? = some (.cells zc 39 (0, 0)) ∧ Below w.heap.size w wr ∧ wr.ownsRow (s0 + 2) 42 4 (.slice (some ⟨s0 + 2, 0, none⟩) 17 17) 17 (wrs (padR 17 k))))
  case atStart => exact ⟨0, rfl, by omega, by omega, hid ⟨HN5.out, HR5.out, HB5.out, HO5.out⟩⟩
  case round =>
    obtain ⟨k, rfl, hk, hgk, HX⟩ := hrel
    have c17 := HX.out.1.cells.2.2.2.2.2.2.2.2.2.2.2.2.2.2.2.2.2.1
    by_cases hlt : k < 17
    · have hli : (k : Int) < 17 := by omega
      have HT := hid (own_there HX.out.2.2.2 (k * 4) 4 (by omega))
      have ow : (wr.setCells (s0 + 2) (k * 4) [.int .u8 3, .int .u16 0, .int .i64 0, .string { data := #[] }]).ownsRow _ _ _ _ _ _ := own_wrap HX.out.2.2.2 k padW
      rw [padR_set 17 k hlt] at ow
      have hbb := below_setCells (show w.heap.size ≤ s0 + 2 by omega) [.int .u8 3, .int .u16 0, .int .i64 0, .string { data := #[] }] (k * 4) wr HX.out.2.2.1
      have h0 : (wr.setCells (s0 + 2) (k * 4) [.int .u8 3, .int .u16 0, .int .i64 0, .string { data := #[] }]).heap[s0]? = _ := (store_off (i := k * 4 + 3) (store_off (i := k * 4 + 2) (store_off (i := k * 4 + 1) (store_off (i := k * 4) HX.out.1 (show s0 ≠ s0 + 2 by omega)) (show s0 ≠ s0 + 2 by omega)) (show s0 ≠ s0 + 2 by omega)) (show s0 ≠ s0 + 2 by omega))
      have h1 : (wr.setCells (s0 + 2) (k * 4) [.int .u8 3, .int .u16 0, .int .i64 0, .string { data := #[] }]).heap[s0 + 1]? = _ := (store_off (i := k * 4 + 3) (store_off (i := k * 4 + 2) (store_off (i := k * 4 + 1) (store_off (i := k * 4) HX.out.2.1 (show s0 + 1 ≠ s0 + 2 by omega)) (show s0 + 1 ≠ s0 + 2 by omega)) (show s0 + 1 ≠ s0 + 2 by omega)) (show s0 + 1 ≠ s0 + 2 by omega))
      have HX2 := hid (And.intro h0 (And.intro h1 (And.intro hbb ow)))
      clear h0 h1 hbb ow HX
      go_wp2_with (refine wpList_store_mid (P := Tryd.prog) rfl 42 (.tmp 63) (.tmp 62) rfl (s0 + 2) (k * 4) #[.int .u8 3, .int .u16 0, .int .i64 0, .string { data := #[] }] (by kernel_rfl) (by kernel_rfl) HT.out sz_wrap (by kernel_rfl) ?_; clear HT; generalize wr.setCells (s0 + 2) (k * 4) (#[.int .u8 3, .int .u16 0, .int .i64 0, .string { data := #[] }] : Array Value).toList = wn at *)
      go_roundg (17 - (k + 1))
      case measure => omega
      case rel => exact ⟨k + 1, by go_num, by omega, by omega, HX2⟩
    · have hli : ¬ ((k : Int) < 17) := by omega
      obtain rfl : k = 17 := by omega
      have HN5 := hid HX.out.1
      have HR5 := hid HX.out.2.1
      have HB5 := hid HX.out.2.2.1
      have HO5 := hid HX.out.2.2.2
      clear hk hgk hlt HX c17
      go_upto_region 44 with fail
      obtain ⟨cs2, hcs2⟩ : ∃ cs2, ndC n (.slice (some ⟨s0 + 2, 0, none⟩) 17 17) (.slice Ak lk ck) = cs2 := ⟨_, rfl⟩
      have hcl2 : cs2.length = 19 := by rw [← hcs2]; rfl
      have h1c : cs2.toArray.all (·.oneCell') = true := by rw [← hcs2]; exact ndC_one _
      have hn5 := HN5.out
      unfold NBox at hn5
      rw [hcs2] at hn5
      have HM5 := hid hn5
      have HCS2 := hid hcs2
      have H1C := hid h1c
      have HZS := hid (show zc.size = cs2.toArray.size from ((congrArg Array.size HZC.out).trans rfl).trans (List.size_toArray.trans hcl2).symm)
      clear hn5 hcs2 h1c
      go_wp2_with (first
        | (refine load_box rfl (.tmp 2) rfl s0 rfl cs2 hcl2 HM5.out ?_)
        | (refine wpList_store_row rfl 39 (.tmp 4) (.tmp 88) rfl (s0 + 1) cs2.toArray rfl rfl 39 zc HR5.out (by rw [List.size_toArray, hcl2]; exact info_node) HZS.out H1C.out ?_))
      have t1 : Turn (fun k => k = s0 + 1) wr (wr.setRow (s0 + 1) cs2.toArray) := Turn.row wr _ _
      have hrow := setRow_heap wr (s0 + 1) zc cs2.toArray 39 (0, 0) HR5.out
      have b5 := below_turn HB5.out (Nat.le_refl _) t1 (fun k hk => by have := HS.out; omega)
      have HF := hid (show BeyP w nd' (.slice Aw lw cw) (.slice Ak lk ck) True (.returned (.agg cs2.toArray)) (wr.setRow (s0 + 1) cs2.toArray) from ⟨.slice (some ⟨s0 + 2, 0, none⟩) 17 17, by rw [← HCS2.out, ← HND.out]; rfl, b5, .inr ⟨trivial, by rw [← HND.out]; exact own_mono (own_turn HO5.out t1 (fun k hk => by omega)) (by have := HS.out; omega)⟩⟩)
      have HROW := hid hrow
      clear t1 hrow b5
      generalize wr.setRow (s0 + 1) cs2.toArray = E at *
      refine bodyPost_ret (v := .agg cs2.toArray) (results_cell_row Tryd.results16 _ E (s0 + 1) 39 cs2.toArray (0, 0) _ rfl HROW.out rfl rfl (by rw [List.size_toArray, hcl2]; exact info_node)) rfl HF.out
theorem bey_17 (n : Nd) (Aw Ak : Option Addr) (lw cw lk ck : Nat) (w : World) (ca : List Value) (hca : ndC n (.slice Aw lw cw) (.slice Ak lk ck) = ca) :
    Calls Tryd.prog 16 #[.agg ca.toArray, .int .i64 17] w (BeyP w (byN n 17) (.slice Aw lw cw) (.slice Ak lk ck) True) := by
  obtain ⟨nd', hnd⟩ : ∃ nd' : Nd, byN n 17 = nd' := ⟨_, rfl⟩
  rw [hnd]
  have HND := hid hnd
  clear hnd
  obtain ⟨s0, hs⟩ : ∃ s0, w.heap.size = s0 := ⟨_, rfl⟩
  have hla : ca.length = 19 := by rw [← hca]; rfl
  have h1a : ca.toArray.all (·.oneCell') = true := by rw [← hca]; exact ndC_one n
  obtain ⟨zc, hzc⟩ : ∃ zc : Array Value, zc = #[.int .u8 0, .string { data := #[] }, .string { data := #[] }, .string { data := #[] }, .int .i64 0, .int .i64 0, .int .i64 0, .int .i64 0, .int .i64 0, .int .i64 0, .bool false, .int .i64 0, .int .i64 0, .int .i64 0, .int .i64 0, .int .i64 0, .bool false, .slice none 0 0, .slice none 0 0] := ⟨_, rfl⟩
  obtain ⟨W, hW⟩ : ∃ W, (w.alloc (.cells ca.toArray 39)).alloc (.cells zc 39) = W := ⟨_, rfl⟩
  have hb : Below w.heap.size w W := by
    rw [← hW]
    exact ((Below.refl _ _).alloc (Nat.le_refl _) _).alloc (by simp) _
  have hN : NBox s0 n (.slice Aw lw cw) (.slice Ak lk ck) W := by
    unfold NBox
    rw [hca, ← hW, ← hs, Below.heap_alloc _ _ _ (by simp)]
    exact World.alloc_heap_new _ _
  have hR : W.heap[s0 + 1]? = some (.cells zc 39 (0, 0)) := by
    rw [← hW, ← hs]
    have := World.alloc_heap_new (w.alloc (.cells ca.toArray 39)) (.cells zc 39)
    rwa [World.size_alloc] at this
  have hsW : W.heap.size = s0 + 2 := by rw [← hW, ← hs]; simp
  have HW := hid hW
  have HB := hid hb
  have HN := hid hN
  have HR := hid hR
  have HSW := hid hsW
  have HS := hid hs
  have HZC := hid hzc
  have hst := store_node w ca hla h1a
  rw [hzc] at HW
  clear hW hb hN hR hca hzc
  go_enter Tryd.func16, Tryd.ntmps16
  go_upto_region 1 with fail
  rw [HW.out]
  clear hst HW
  have c0 := HN.out.cells.2.2.2.2.2.2.2.2.2.2.2.2.2.2.2.2.2.1
  have f0 := blk_frozen HN.out 17
  have l0 := lt_of_block HN.out
  have sW := HSW.out
  have a1 : Below W.heap.size W (W.alloc (.cells #[.int .u8 3, .int .u16 0, .int .i64 0, .string { data := #[] }, .int .u8 8, .int .u16 0, .int .i64 0, .string { data := #[] }] 42)) := (Below.refl _ _).alloc (Nat.le_refl _) _
  have hcm := World.setCell_alloc_past (w := W) (.cells #[.int .u8 3, .int .u16 0, .int .i64 0, .string { data := #[] }, .int .u8 8, .int .u16 0, .int .i64 0, .string { data := #[] }] 42) s0 17 (.slice (some ⟨s0 + 2, 0, none⟩) 2 2) l0
  have hnw := World.alloc_heap_new W (.cells #[.int .u8 3, .int .u16 0, .int .i64 0, .string { data := #[] }, .int .u8 8, .int .u16 0, .int .i64 0, .string { data := #[] }] 42)
  rw [sW] at hnw
  have HN5 := hid (show NBox s0 n (.slice (some ⟨s0 + 2, 0, none⟩) 2 2) (.slice Ak lk ck) ((W.alloc (.cells #[.int .u8 3, .int .u16 0, .int .i64 0, .string { data := #[] }, .int .u8 8, .int .u16 0, .int .i64 0, .string { data := #[] }] 42)).setCell ⟨s0, 17, none⟩ (.slice (some ⟨s0 + 2, 0, none⟩) 2 2)) from (HN.out.on a1).set17 _)
  have HR5 := hid (store_off (i := 17) (u := (.slice (some ⟨s0 + 2, 0, none⟩) 2 2)) ((a1.block (s0 + 1) (by omega)).trans HR.out) (show s0 + 1 ≠ s0 by omega))
  have HB5 := hid ((HB.out.trans (a1.mono HB.out.size)).setCell (p := ⟨s0, 17, none⟩) (by show w.heap.size ≤ s0; omega) (.slice (some ⟨s0 + 2, 0, none⟩) 2 2))
  have HO5 := hid (show ((W.alloc (.cells #[.int .u8 3, .int .u16 0, .int .i64 0, .string { data := #[] }, .int .u8 8, .int .u16 0, .int .i64 0, .string { data := #[] }] 42)).setCell ⟨s0, 17, none⟩ (.slice (some ⟨s0 + 2, 0, none⟩) 2 2)).ownsRow (s0 + 2) 42 4 (.slice (some ⟨s0 + 2, 0, none⟩) 2 2) 2 (wrs [padW, ⟨8, 0, 0, ⟨#[]⟩⟩]) from ⟨rfl, .inr ⟨s0 + 2, 2, #[.int .u8 3, .int .u16 0, .int .i64 0, .string { data := #[] }, .int .u8 8, .int .u16 0, .int .i64 0, .string { data := #[] }], rfl, by omega, store_off hnw (by omega), by omega, by decide, rfl, rfl⟩⟩)
  rw [hcm] at HN5 HR5 HB5 HO5
  clear hcm a1 hnw
  have hk7 : (7 : Int) * 17 - 111 = 8 := by decide
  go_upto_region 44 with fail
  generalize (W.setCell ⟨s0, 17, none⟩ (.slice (some ⟨s0 + 2, 0, none⟩) 2 2)).alloc (.cells #[.int .u8 3, .int .u16 0, .int .i64 0, .string { data := #[] }, .int .u8 8, .int .u16 0, .int .i64 0, .string { data := #[] }] 42) = w5 at *
  clear c0 f0 l0
  obtain ⟨cs2, hcs2⟩ : ∃ cs2, ndC n (.slice (some ⟨s0 + 2, 0, none⟩) 2 2) (.slice Ak lk ck) = cs2 := ⟨_, rfl⟩
  have hcl2 : cs2.length = 19 := by rw [← hcs2]; rfl
  have h1c : cs2.toArray.all (·.oneCell') = true := by rw [← hcs2]; exact ndC_one _
  have hn5 := HN5.out
  unfold NBox at hn5
  rw [hcs2] at hn5
  have HM5 := hid hn5
  have HCS2 := hid hcs2
  have H1C := hid h1c
  have HZS := hid (show zc.size = cs2.toArray.size from ((congrArg Array.size HZC.out).trans rfl).trans (List.size_toArray.trans hcl2).symm)
  clear hn5 hcs2 h1c
  go_wp2_with (first
    | (refine load_box rfl (.tmp 2) rfl s0 rfl cs2 hcl2 HM5.out ?_)
    | (refine wpList_store_row rfl 39 (.tmp 4) (.tmp 88) rfl (s0 + 1) cs2.toArray rfl rfl 39 zc HR5.out (by rw [List.size_toArray, hcl2]; exact info_node) HZS.out H1C.out ?_))
  have t1 : Turn (fun k => k = s0 + 1) w5 (w5.setRow (s0 + 1) cs2.toArray) := Turn.row w5 _ _
  have hrow := setRow_heap w5 (s0 + 1) zc cs2.toArray 39 (0, 0) HR5.out
  have b5 := below_turn HB5.out (Nat.le_refl _) t1 (fun k hk => by have := HS.out; omega)
  have HF := hid (show BeyP w nd' (.slice Aw lw cw) (.slice Ak lk ck) True (.returned (.agg cs2.toArray)) (w5.setRow (s0 + 1) cs2.toArray) from ⟨(.slice (some ⟨s0 + 2, 0, none⟩) 2 2), by rw [← HCS2.out, ← HND.out]; rfl, b5, .inr ⟨trivial, by rw [← HND.out]; exact own_mono (own_turn HO5.out t1 (fun k hk => by omega)) (by have := HS.out; omega)⟩⟩)
  have HROW := hid hrow
  clear t1 hrow b5
  generalize w5.setRow (s0 + 1) cs2.toArray = E at *
  refine bodyPost_ret (v := .agg cs2.toArray) (results_cell_row Tryd.results16 _ E (s0 + 1) 39 cs2.toArray (0, 0) _ rfl HROW.out rfl rfl (by rw [List.size_toArray, hcl2]; exact info_node)) rfl HF.out
theorem bey_18 (n : Nd) (Aw Ak : Option Addr) (lw cw lk ck : Nat) (w : World) (ca : List Value) (hca : ndC n (.slice Aw lw cw) (.slice Ak lk ck) = ca) :
    Calls Tryd.prog 16 #[.agg ca.toArray, .int .i64 18] w (BeyP w (byN n 18) (.slice Aw lw cw) (.slice Ak lk ck) True) := by
  obtain ⟨nd', hnd⟩ : ∃ nd' : Nd, byN n 18 = nd' := ⟨_, rfl⟩
  rw [hnd]
  have HND := hid hnd
  clear hnd
  obtain ⟨s0, hs⟩ : ∃ s0, w.heap.size = s0 := ⟨_, rfl⟩
  have hla : ca.length = 19 := by rw [← hca]; rfl
  have h1a : ca.toArray.all (·.oneCell') = true := by rw [← hca]; exact ndC_one n
  obtain ⟨zc, hzc⟩ : ∃ zc : Array Value, zc = #[.int .u8 0, .string { data := #[] }, .string { data := #[] }, .string { data := #[] }, .int .i64 0, .int .i64 0, .int .i64 0, .int .i64 0, .int .i64 0, .int .i64 0, .bool false, .int .i64 0, .int .i64 0, .int .i64 0, .int .i64 0, .int .i64 0, .bool false, .slice none 0 0, .slice none 0 0] := ⟨_, rfl⟩
  obtain ⟨W, hW⟩ : ∃ W, (w.alloc (.cells ca.toArray 39)).alloc (.cells zc 39) = W := ⟨_, rfl⟩
  have hb : Below w.heap.size w W := by
    rw [← hW]
    exact ((Below.refl _ _).alloc (Nat.le_refl _) _).alloc (by simp) _
  have hN : NBox s0 n (.slice Aw lw cw) (.slice Ak lk ck) W := by
    unfold NBox
    rw [hca, ← hW, ← hs, Below.heap_alloc _ _ _ (by simp)]
    exact World.alloc_heap_new _ _
  have hR : W.heap[s0 + 1]? = some (.cells zc 39 (0, 0)) := by
    rw [← hW, ← hs]
    have := World.alloc_heap_new (w.alloc (.cells ca.toArray 39)) (.cells zc 39)
    rwa [World.size_alloc] at this
  have hsW : W.heap.size = s0 + 2 := by rw [← hW, ← hs]; simp
  have HW := hid hW
  have HB := hid hb
  have HN := hid hN
  have HR := hid hR
  have HSW := hid hsW
  have HS := hid hs
  have HZC := hid hzc
  have hst := store_node w ca hla h1a
  rw [hzc] at HW
  clear hW hb hN hR hca hzc
  go_enter Tryd.func16, Tryd.ntmps16
  go_upto_region 1 with fail
  rw [HW.out]
  clear hst HW
  have c0 := HN.out.cells.2.2.2.2.2.2.2.2.2.2.2.2.2.2.2.2.2.1
  have f0 := blk_frozen HN.out 17
  have l0 := lt_of_block HN.out
  have sW := HSW.out
  have a1 : Below W.heap.size W (W.alloc (.cells #[.int .u8 3, .int .u16 0, .int .i64 0, .string { data := #[] }, .int .u8 15, .int .u16 0, .int .i64 0, .string { data := #[] }] 42)) := (Below.refl _ _).alloc (Nat.le_refl _) _
  have hcm := World.setCell_alloc_past (w := W) (.cells #[.int .u8 3, .int .u16 0, .int .i64 0, .string { data := #[] }, .int .u8 15, .int .u16 0, .int .i64 0, .string { data := #[] }] 42) s0 17 (.slice (some ⟨s0 + 2, 0, none⟩) 2 2) l0
  have hnw := World.alloc_heap_new W (.cells #[.int .u8 3, .int .u16 0, .int .i64 0, .string { data := #[] }, .int .u8 15, .int .u16 0, .int .i64 0, .string { data := #[] }] 42)
  rw [sW] at hnw
  have HN5 := hid (show NBox s0 n (.slice (some ⟨s0 + 2, 0, none⟩) 2 2) (.slice Ak lk ck) ((W.alloc (.cells #[.int .u8 3, .int .u16 0, .int .i64 0, .string { data := #[] }, .int .u8 15, .int .u16 0, .int .i64 0, .string { data := #[] }] 42)).setCell ⟨s0, 17, none⟩ (.slice (some ⟨s0 + 2, 0, none⟩) 2 2)) from (HN.out.on a1).set17 _)
  have HR5 := hid (store_off (i := 17) (u := (.slice (some ⟨s0 + 2, 0, none⟩) 2 2)) ((a1.block (s0 + 1) (by omega)).trans HR.out) (show s0 + 1 ≠ s0 by omega))
  have HB5 := hid ((HB.out.trans (a1.mono HB.out.size)).setCell (p := ⟨s0, 17, none⟩) (by show w.heap.size ≤ s0; omega) (.slice (some ⟨s0 + 2, 0, none⟩) 2 2))
  have HO5 := hid (show ((W.alloc (.cells #[.int .u8 3, .int .u16 0, .int .i64 0, .string { data := #[] }, .int .u8 15, .int .u16 0, .int .i64 0, .string { data := #[] }] 42)).setCell ⟨s0, 17, none⟩ (.slice (some ⟨s0 + 2, 0, none⟩) 2 2)).ownsRow (s0 + 2) 42 4 (.slice (some ⟨s0 + 2, 0, none⟩) 2 2) 2 (wrs [padW, ⟨15, 0, 0, ⟨#[]⟩⟩]) from ⟨rfl, .inr ⟨s0 + 2, 2, #[.int .u8 3, .int .u16 0, .int .i64 0, .string { data := #[] }, .int .u8 15, .int .u16 0, .int .i64 0, .string { data := #[] }], rfl, by omega, store_off hnw (by omega), by omega, by decide, rfl, rfl⟩⟩)
  rw [hcm] at HN5 HR5 HB5 HO5
  clear hcm a1 hnw
  have hk7 : (7 : Int) * 18 - 111 = 15 := by decide
  go_upto_region 44 with fail
  generalize (W.setCell ⟨s0, 17, none⟩ (.slice (some ⟨s0 + 2, 0, none⟩) 2 2)).alloc (.cells #[.int .u8 3, .int .u16 0, .int .i64 0, .string { data := #[] }, .int .u8 15, .int .u16 0, .int .i64 0, .string { data := #[] }] 42) = w5 at *
  clear c0 f0 l0
  obtain ⟨cs2, hcs2⟩ : ∃ cs2, ndC n (.slice (some ⟨s0 + 2, 0, none⟩) 2 2) (.slice Ak lk ck) = cs2 := ⟨_, rfl⟩
  have hcl2 : cs2.length = 19 := by rw [← hcs2]; rfl
  have h1c : cs2.toArray.all (·.oneCell') = true := by rw [← hcs2]; exact ndC_one _
  have hn5 := HN5.out
  unfold NBox at hn5
  rw [hcs2] at hn5
  have HM5 := hid hn5
  have HCS2 := hid hcs2
  have H1C := hid h1c
  have HZS := hid (show zc.size = cs2.toArray.size from ((congrArg Array.size HZC.out).trans rfl).trans (List.size_toArray.trans hcl2).symm)
  clear hn5 hcs2 h1c
  go_wp2_with (first
    | (refine load_box rfl (.tmp 2) rfl s0 rfl cs2 hcl2 HM5.out ?_)
    | (refine wpList_store_row rfl 39 (.tmp 4) (.tmp 88) rfl (s0 + 1) cs2.toArray rfl rfl 39 zc HR5.out (by rw [List.size_toArray, hcl2]; exact info_node) HZS.out H1C.out ?_))
  have t1 : Turn (fun k => k = s0 + 1) w5 (w5.setRow (s0 + 1) cs2.toArray) := Turn.row w5 _ _
  have hrow := setRow_heap w5 (s0 + 1) zc cs2.toArray 39 (0, 0) HR5.out
  have b5 := below_turn HB5.out (Nat.le_refl _) t1 (fun k hk => by have := HS.out; omega)
  have HF := hid (show BeyP w nd' (.slice Aw lw cw) (.slice Ak lk ck) True (.returned (.agg cs2.toArray)) (w5.setRow (s0 + 1) cs2.toArray) from ⟨(.slice (some ⟨s0 + 2, 0, none⟩) 2 2), by rw [← HCS2.out, ← HND.out]; rfl, b5, .inr ⟨trivial, by rw [← HND.out]; exact own_mono (own_turn HO5.out t1 (fun k hk => by omega)) (by have := HS.out; omega)⟩⟩)
  have HROW := hid hrow
  clear t1 hrow b5
  generalize w5.setRow (s0 + 1) cs2.toArray = E at *
  refine bodyPost_ret (v := .agg cs2.toArray) (results_cell_row Tryd.results16 _ E (s0 + 1) 39 cs2.toArray (0, 0) _ rfl HROW.out rfl rfl (by rw [List.size_toArray, hcl2]; exact info_node)) rfl HF.out
end Go.Proofs.YtnkojoajcdhngaaDoor
