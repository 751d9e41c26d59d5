/- Layer 8: Twin: a node in memory of its own. -/
import Derived.Test.YtnkojoajcdhngaaDoorTr22
namespace Go.Proofs.YtnkojoajcdhngaaDoor
set_option linter.unusedVariables false
set_option linter.unusedSimpArgs false
set_option maxRecDepth 100000
open Go.RowKit Go.Shelf Go.Lib
attribute [local go_sem] Oper.semAt_some
set_option maxRecDepth 100000
set_option maxHeartbeats 16000000

theorem Turn.row (w : World) (g : Nat) (cs : Array Value) : Turn (fun k => k = g) w (w.setRow g cs) := ⟨rfl, rfl, rfl, by simp, fun k _ hn => setRow_other w g k cs hn⟩
/-- A node of one's own. -/
def TwinP (w : World) (n : Nd) (e : Ending) (w' : World) : Prop := ∃ vw vk, e = .returned (.agg (ndC n vw vk).toArray) ∧ TriO w.heap.size w' (n, vw, vk) ∧ Below w.heap.size w w'
theorem Twin_any {B : Nat} (n : Nd) (ks : List Int) (Aw Ak A : Option Addr) (cw ck c lk : Nat) (w : World) (h1 : At B w Aw (wrs n.wraps)) (hs1 : SlOk Aw n.wraps.length cw) (h2 : At B w A (ints ks)) (hs2 : SlOk A ks.length c) (hB : B ≤ w.heap.size) (hw : n.wraps.length ≤ 4000000000000) (hk : ks.length ≤ 9000000000000)
    (ca : List Value) (hca : ndC n (.slice Aw n.wraps.length cw) (.slice Ak lk ck) = ca) :
    Calls Tryd.prog 58 #[.agg ca.toArray, .slice A ks.length c] w (TwinP w { n with kids := ks }) := by
  obtain ⟨nd', hnd⟩ : ∃ nd' : Nd, { n with kids := ks } = nd' := ⟨_, rfl⟩
  rw [hnd]
  have HND := hid hnd
  clear hnd
  obtain ⟨s0, hs⟩ : ∃ s0, w.heap.size = s0 := ⟨_, rfl⟩
  have hla : ca.length = 19 := by rw [← hca]; rfl
  have h1a : ca.toArray.all (·.oneCell') = true := by rw [← hca]; exact ndC_one n
  obtain ⟨zc, hzc⟩ : ∃ zc : Array Value, zc = #[.int .u8 0, .string { data := #[] }, .string { data := #[] }, .string { data := #[] }, .int .i64 0, .int .i64 0, .int .i64 0, .int .i64 0, .int .i64 0, .int .i64 0, .bool false, .int .i64 0, .int .i64 0, .int .i64 0, .int .i64 0, .int .i64 0, .bool false, .slice none 0 0, .slice none 0 0] := ⟨_, rfl⟩
  obtain ⟨W, hW⟩ : ∃ W, (w.alloc (.cells ca.toArray 39)).alloc (.cells zc 39) = W := ⟨_, rfl⟩
  have hb : Below w.heap.size w W := by
    rw [← hW]
    exact ((Below.refl _ _).alloc (Nat.le_refl _) _).alloc (by simp) _
  have hN : NBox s0 n (.slice Aw n.wraps.length cw) (.slice Ak lk ck) W := by
    unfold NBox
    rw [hca, ← hW, ← hs, Below.heap_alloc _ _ _ (by simp)]
    exact World.alloc_heap_new _ _
  have hR : W.heap[s0 + 1]? = some (.cells zc 39 (0, 0)) := by
    rw [← hW, ← hs]
    have := World.alloc_heap_new (w.alloc (.cells ca.toArray 39)) (.cells zc 39)
    rwa [World.size_alloc] at this
  have hsW : W.heap.size = s0 + 2 := by rw [← hW, ← hs]; simp
  have a1 := h1.below (hb.mono hB)
  have a2 := h2.below (hb.mono hB)
  have HW := hid hW
  have HB := hid hb
  have HN := hid hN
  have HR := hid hR
  have HSW := hid hsW
  have HS := hid hs
  have HA1 := hid a1
  have HA2 := hid a2
  have HZC := hid hzc
  have hst := store_node w ca hla h1a
  rw [hzc] at HW
  clear hW hb hN hR hsW a1 a2 h1 h2 hca hzc
  go_enter Tryd.func58, Tryd.ntmps58
  go_upto_region 1 with fail
  rw [HW.out]
  clear hst HW
  obtain ⟨i0, hi, hz0, hz1, hz2⟩ := info_parts info_wrap
  obtain ⟨j0, ji, jz0, jz1, jz2⟩ := info_parts info_int
  have hsz := HSW.out
  have o17 := HN.out.cells.2.2.2.2.2.2.2.2.2.2.2.2.2.2.2.2.2.1
  have l0 := lt_of_block HN.out
  obtain ⟨lw, hlw⟩ : ∃ lw, n.wraps.length = lw := ⟨_, rfl⟩
  have HLW := hid hlw
  rw [hlw] at o17 hs1 hw
  clear hlw
  go_wp2_with (first | (at_builtin; refine append_many Tryd.underlying36 hi hz0 hz1 hz2 rfl (by decide) rfl (.tmp 7) (.tmp 9) rfl (s0 + 2) (.slice none 0 0) 0 [] Aw lw cw B (wrs n.wraps) rfl rfl hs1 (World.ownsRow_nil _ _ _ _) HA1.out (by rw [wrs_len, HLW.out]) (wrs_one _) ?_ ?_ ?_ ?_))
  · unfold maxLen; omega
  · omega
  · omega
  intro v2 w2 ho2 hg2
  have ho2 : w2.ownsRow (s0 + 2) 42 4 v2 lw (wrs n.wraps) := by
    first
      | exact ho2
      | (rw [Nat.zero_add] at ho2; exact ho2)
  obtain ⟨A5, c5, rfl⟩ := own_shape ho2
  have hbg : Below W.heap.size W w2 := (Below.refl _ _).grown hg2 (Nat.le_refl _) (fun k hk => by cases hk)
  have n2 := HN.out.on hbg
  have p17 := n2.cells.2.2.2.2.2.2.2.2.2.2.2.2.2.2.2.2.2.1
  have f17 := blk_frozen n2 17
  have l2 := lt_of_block n2
  have n3 := n2.set17 (.slice A5 lw c5)
  have hR2 : w2.heap[s0 + 1]? = some (.cells zc 39 (0, 0)) := (hbg.block (s0 + 1) (by omega)).trans HR.out
  have hR3 := store_off (i := 17) (u := .slice A5 lw c5) hR2 (show s0 + 1 ≠ s0 by omega)
  have hb3 := (HB.out.trans (hbg.mono HB.out.size)).setCell (p := ⟨s0, 17, none⟩) (by show w.heap.size ≤ s0; have := HS.out; omega) (.slice A5 lw c5)
  have ho3 := own_off (g := s0) (j := 17) (u := .slice A5 lw c5) ho2 (fun e => by have := own_ge ho2 s0 e; omega)
  have a3 := (HA2.out.below (hbg.mono (by have := HS.out; omega))).below ((Below.refl w2.heap.size w2).mono (show B ≤ w2.heap.size by have := hbg.size; have := HS.out; omega))
  have hgs := hbg.size
  have hpt := HA2.out.below (((Below.refl w.heap.size W).trans (hbg.mono HB.out.size)).setCell (p := ⟨s0, 17, none⟩) (by show w.heap.size ≤ s0; have := HS.out; omega) (.slice A5 lw c5) |>.mono hB)
  have hsz3 : (w2.setCell ⟨s0, 17, none⟩ (.slice A5 lw c5)).heap.size = w2.heap.size := by simp
  have HN3 := hid n3
  have HR3 := hid hR3
  have HB3 := hid hb3
  have HO3 := hid ho3
  have HPT := hid hpt
  have HSZ3 := hid hsz3
  clear hg2 ho2 n2 n3 hR2 hR3 hb3 ho3 a3 hpt hsz3 hbg o17 l0 hs1
  go_upto_region 4 with fail
  generalize w2.setCell ⟨s0, 17, none⟩ (.slice A5 lw c5) = w3 at *
  clear p17 f17 l2
  have hsz3 := HSZ3.out
  obtain ⟨mk, hlk⟩ : ∃ mk, ks.length = mk := ⟨_, rfl⟩
  have HLK := hid hlk
  rw [hlk] at hs2 hk
  rw [hlk]
  clear hlk
  have o18 := HN3.out.cells.2.2.2.2.2.2.2.2.2.2.2.2.2.2.2.2.2.2
  go_wp2_with (first | (at_builtin; refine append_many Tryd.underlying37 ji jz0 jz1 jz2 rfl (by decide) rfl (.tmp 12) (.tmp 13) rfl (s0 + 2) (.slice none 0 0) 0 [] A mk c B (ints ks) rfl rfl hs2 (World.ownsRow_nil _ _ _ _) HPT.out (by rw [ints_len, HLK.out]; omega) (ints_one _) ?_ ?_ ?_ ?_))
  · unfold maxLen; omega
  · omega
  · omega
  intro v4 w4 ho4 hg4
  have ho4 : w4.ownsRow (s0 + 2) 3 1 v4 mk (ints ks) := by
    first
      | exact ho4
      | (rw [Nat.zero_add] at ho4; exact ho4)
  obtain ⟨A7, c7, rfl⟩ := own_shape ho4
  have hbg4 : Below w3.heap.size w3 w4 := (Below.refl _ _).grown hg4 (Nat.le_refl _) (fun k hk => by cases hk)
  have n4 := HN3.out.on hbg4
  have p18 := n4.cells.2.2.2.2.2.2.2.2.2.2.2.2.2.2.2.2.2.2
  have f18 := blk_frozen n4 18
  have l4 := lt_of_block n4
  have n5 := n4.set18 (.slice A7 mk c7)
  have hR5 := store_off (i := 18) (u := .slice A7 mk c7) ((hbg4.block (s0 + 1) (by omega)).trans HR3.out) (show s0 + 1 ≠ s0 by omega)
  have hb5 := (HB3.out.trans (hbg4.mono HB3.out.size)).setCell (p := ⟨s0, 18, none⟩) (by show w.heap.size ≤ s0; have := HS.out; omega) (.slice A7 mk c7)
  have ho5 := own_off (g := s0) (j := 18) (u := .slice A7 mk c7) ho4 (fun e => by have := own_ge ho4 s0 e; omega)
  have ho6 := own_off (g := s0) (j := 18) (u := .slice A7 mk c7) (own_below' HO3.out hbg4) (fun e => by have := own_ge HO3.out s0 e; omega)
  have HN5 := hid n5
  have HR5 := hid hR5
  have HB5 := hid hb5
  have HO5 := hid ho5
  have HO6 := hid ho6
  clear hg4 ho4 n4 n5 hR5 hb5 ho5 ho6 hbg4 o18
  go_upto_region 5 with fail
  generalize w4.setCell ⟨s0, 18, none⟩ (.slice A7 mk c7) = w5 at *
  clear p18 f18 l4
  obtain ⟨cs2, hcs2⟩ : ∃ cs2, ndC n (.slice A5 lw c5) (.slice A7 mk c7) = cs2 := ⟨_, rfl⟩
  have hcl2 : cs2.length = 19 := by rw [← hcs2]; rfl
  have h1c : cs2.toArray.all (·.oneCell') = true := by rw [← hcs2]; exact ndC_one n
  have hn5 := HN5.out
  unfold NBox at hn5
  rw [hcs2] at hn5
  have HM5 := hid hn5
  have HCS2 := hid hcs2
  have H1C := hid h1c
  have HZS := hid (show zc.size = cs2.toArray.size from ((congrArg Array.size HZC.out).trans rfl).trans (List.size_toArray.trans hcl2).symm)
  clear hn5 hcs2 h1c
  go_wp2_with (first
    | (refine load_box rfl (.tmp 2) rfl s0 rfl cs2 hcl2 HM5.out ?_)
    | (refine wpList_store_row rfl 39 (.tmp 4) (.tmp 16) rfl (s0 + 1) cs2.toArray rfl rfl 39 zc HR5.out (by rw [List.size_toArray, hcl2]; exact info_node) HZS.out H1C.out ?_))
  have t1 : Turn (fun k => k = s0 + 1) w5 (w5.setRow (s0 + 1) cs2.toArray) := Turn.row w5 _ _
  have hrow := setRow_heap w5 (s0 + 1) zc cs2.toArray 39 (0, 0) HR5.out
  have o5 := own_turn HO5.out t1 (fun k hk => by omega)
  have o6 := own_turn HO6.out t1 (fun k hk => by omega)
  have b5 := below_turn HB5.out (Nat.le_refl _) t1 (fun k hk => by have := HS.out; omega)
  have HF := hid (show TwinP w nd' (.returned (.agg cs2.toArray)) (w5.setRow (s0 + 1) cs2.toArray) from by
    refine ⟨.slice A5 lw c5, .slice A7 mk c7, by rw [← HCS2.out, ← HND.out]; rfl, ⟨?_, ?_⟩, b5⟩
    · rw [← HND.out]
      show (w5.setRow (s0 + 1) cs2.toArray).ownsRow _ _ _ _ n.wraps.length (wrs n.wraps)
      rw [HLW.out]
      exact own_mono o6 (by have := HS.out; omega)
    · rw [← HND.out]
      show (w5.setRow (s0 + 1) cs2.toArray).ownsRow _ _ _ _ ks.length (ints ks)
      rw [HLK.out]
      exact own_mono o5 (by have := HS.out; omega))
  have HROW := hid hrow
  clear t1 hrow o5 o6 b5
  generalize w5.setRow (s0 + 1) cs2.toArray = E at *
  refine bodyPost_ret (v := .agg cs2.toArray) (results_cell_row Tryd.results58 _ E (s0 + 1) 39 cs2.toArray (0, 0) _ rfl HROW.out rfl rfl (by rw [List.size_toArray, hcl2]; exact info_node)) rfl HF.out
end Go.Proofs.YtnkojoajcdhngaaDoor
