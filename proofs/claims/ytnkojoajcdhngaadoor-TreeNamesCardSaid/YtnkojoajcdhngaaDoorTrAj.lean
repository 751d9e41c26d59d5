/- Layer 8: TreeNames: what is called. -/
import Derived.Test.YtnkojoajcdhngaaDoorTrN
import Derived.Test.YtnkojoajcdhngaaDoorTrAg
import Derived.Test.YtnkojoajcdhngaaDoorMonoA
namespace Go.Proofs.YtnkojoajcdhngaaDoor
set_option linter.unusedVariables false
set_option linter.unusedSimpArgs false
set_option maxRecDepth 100000
open Go.RowKit Go.Shelf Go.Lib
attribute [local go_sem] Oper.semAt_some
set_option maxRecDepth 100000
set_option maxHeartbeats 16000000

theorem check_own {base : Nat} (L : List Nd) (v : Int) (m : Nat) (hm : L.length = m) (hv : chkC L = v) (hok : ∀ n ∈ L, n.ok) (A : Option Addr) (c : Nat) (w : World) (hT : TabsL w) (hS : SpecO base w A c L) :
    Calls Tryd.prog 12 #[.agg #[.slice A m c]] w fun e w' => e = .returned (.int .i64 v) ∧ Below w.heap.size w w' := by
  have C := TCheck_any L hok A c w hT.1 hS.nds.1 (Nat.le_refl _)
  rw [hv, hm] at C
  exact C
theorem row_at (n m : Nat) (hm : n + 1 = m) (hn : n ≤ 100000) (w : World) : Calls Tryd.prog 11 #[.int .i64 n] w fun e w' => ∃ A c, e = .returned (.agg #[.slice A m c]) ∧ SpecO w.heap.size w' A c (rowL n) ∧ Below w.heap.size w w' := by
  have C := row_any n hn w
  unfold FormP at C
  rw [rowL_len, hm] at C
  exact C
theorem deep_at (n : Nat) (hn : n ≤ 100000) (w : World) : Calls Tryd.prog 13 #[.int .i64 n] w fun e w' => ∃ A c, e = .returned (.agg #[.slice A n c]) ∧ SpecO w.heap.size w' A c (deepL n) ∧ Below w.heap.size w w' := by
  have C := deep_any n hn w
  unfold FormP at C
  rw [deepL_len] at C
  exact C
theorem put_own {b1 b2 : Nat} (L M : List Nd) (node at_ z : Int) (m m2 : Nat) (hm : L.length = m) (hm2 : M.length = m2) (hv : putE L M node at_ = ([], z)) (hok : ∀ n ∈ L, n.ok) (hok2 : ∀ n ∈ M, n.ok) (h1 : m ≤ 9000000000000) (h2 : m2 ≤ 9000000000000) (A A2 : Option Addr) (c c2 : Nat) (w : World) (hT : TabsL w) (hS : SpecO b1 w A c L) (hS2 : SpecO b2 w A2 c2 M) :
    Calls Tryd.prog 14 #[.agg #[.slice A m c], .int .i64 node, .int .i64 at_, .agg #[.slice A2 m2 c2]] w fun e w' => ∃ A3 c3, e = .returned (.tuple #[.agg #[.slice A3 0 c3], .int .i64 z]) ∧ Below w.heap.size w w' := by
  have C := Put_any L M hok hok2 A A2 c c2 node at_ w hT.1 hS.nds.1 hS2.nds.1 (Nat.le_refl _) (by omega) (by omega)
  rw [hv, hm, hm2] at C
  refine C.mono ?_
  rintro e w' ⟨A3, c3, rfl, _, hb⟩
  exact ⟨A3, c3, rfl, hb⟩
theorem mk16 (w : World) : (Instr.makeSlice 36 (.int .i64 16) (.int .i64 16)).run Tryd.prog w = .ok (.slice (some ⟨w.heap.size, 0, none⟩) 16 16) (w.alloc (.cells (wrs (List.replicate 16 zeroW)).toArray 42)) := by
  obtain ⟨i0, hi, hz0, hz1, hz2⟩ := info_parts info_wrap
  have h := run_make (P := Tryd.prog) w 36 42 i0 _ Tryd.underlying36 hi hz0 .i64 .i64 16 16 (by omega) (by omega) (by rw [hz2]; omega) (by omega)
  rw [hz1] at h
  have e : madeCells (Value.agg #[.int .u8 0, .int .u16 0, .int .i64 0, .string { data := #[] }]).cells (16 * 4) = (wrs (List.replicate 16 zeroW)).toArray := by
    rw [← made_16]
  rw [← e]
  exact h
/-- What the operations ahead of the node's store come to. -/
def WrRow (b : Nat) (g : Nat) (w : World) : Prop := b ≤ g ∧ w.heap[g]? = some (.cells (wrs (List.replicate 16 zeroW)).toArray 42 (0, 0))
def WrV (b : Nat) : Value → World → Prop := fun v w => ∃ g, v = .slice (some ⟨g, 0, none⟩) 16 16 ∧ WrRow b g w
def NdV (b : Nat) : Value → World → Prop := fun v w => ∃ g, v = .agg (ndC ndT (.slice (some ⟨g, 0, none⟩) 16 16) (.slice none 0 0)).toArray ∧ WrRow b g w
def PtV (b : Nat) (cs : Array Value) (t : TypeId) : Value → World → Prop := fun v w => ∃ g, v = .pointer (some ⟨g, 0, none⟩) ∧ b ≤ g ∧ w.heap[g]? = some (.cells cs t (0, 0))
theorem WrRow.on {b g : Nat} {w w' : World} (h : WrRow b g w) (hb : Below w.heap.size w w') : WrRow b g w' := ⟨h.1, (hb.block _ (blk_lt2 h.2)).trans h.2⟩
theorem WrV.stable (b : Nat) : Stable (WrV b) := fun _ _ _ ⟨g, e, h⟩ hb => ⟨g, e, h.on hb⟩
theorem NdV.stable (b : Nat) : Stable (NdV b) := fun _ _ _ ⟨g, e, h⟩ hb => ⟨g, e, h.on hb⟩
theorem PtV.stable (b : Nat) (cs : Array Value) (t : TypeId) : Stable (PtV b cs t) := fun _ _ _ ⟨g, e, hg, h⟩ hb => ⟨g, e, hg, (hb.block _ (blk_lt2 h)).trans h⟩
/-- A spec of one node. -/
theorem spec_one {base : Nat} {W : World} (n : Nd) (vw : Value) (hk : n.kids = []) (hw : W.ownsRow base 42 4 vw n.wraps.length (wrs n.wraps)) (hb : base ≤ W.heap.size) :
    SpecO base (W.alloc (.cells (ndC n vw (.slice none 0 0)).toArray 39)) (some ⟨W.heap.size, 0, none⟩) 1 [n] := by
  refine ⟨[(n, vw, .slice none 0 0)], rfl, ⟨?_, .inr ⟨W.heap.size, 1, _, rfl, hb, World.alloc_heap_new _ _, Nat.le_refl _, by decide, rfl, ?_⟩⟩, ?_⟩
  · simp [cellsT, ndC]
  · simp [cellsT, ndC]
  · intro t ht
    rw [List.mem_singleton.1 ht]
    refine ⟨own_below' hw ((Below.refl _ _).alloc (Nat.le_refl _) _), ?_⟩
    show World.ownsRow _ _ _ _ _ n.kids.length (ints n.kids)
    rw [hk]
    exact World.ownsRow_nil _ _ _ _
def BeyR (w : World) (n : Nd) (k : Nat) (vw vk : Value) (e : Ending) (w' : World) : Prop := ∃ vw', e = .returned (.agg (ndC (byN n k) vw' vk).toArray) ∧ Below w.heap.size w w' ∧ ((vw' = vw ∧ (byN n k).wraps = n.wraps) ∨ w'.ownsRow w.heap.size 42 4 vw' (byN n k).wraps.length (wrs (byN n k).wraps))
theorem BeyP.same {w : World} {n : Nd} {k : Nat} {vw vk : Value} {e : Ending} {w' : World} (h : BeyP w (byN n k) vw vk False e w') (hw : (byN n k).wraps = n.wraps) : BeyR w n k vw vk e w' := by
  obtain ⟨vw', h1, h2, h3⟩ := h
  refine ⟨vw', h1, h2, .inl ⟨?_, hw⟩⟩
  rcases h3 with h3 | h3
  · exact h3.1
  · exact h3.1.elim
theorem BeyP.own {w : World} {n : Nd} {k : Nat} {vw vk : Value} {e : Ending} {w' : World} (h : BeyP w (byN n k) vw vk True e w') : BeyR w n k vw vk e w' := by
  obtain ⟨vw', h1, h2, h3⟩ := h
  refine ⟨vw', h1, h2, .inr ?_⟩
  rcases h3 with h3 | h3
  · exact (h3.2 trivial).elim
  · exact h3.2
theorem bey_any (n : Nd) (Aw Ak : Option Addr) (lw cw lk ck : Nat) (w : World) (ca : List Value) (hca : ndC n (.slice Aw lw cw) (.slice Ak lk ck) = ca) (k : Nat) (hk : k < 20) :
    Calls Tryd.prog 16 #[.agg ca.toArray, .int .i64 k] w (BeyR w n k (.slice Aw lw cw) (.slice Ak lk ck)) := by
  have h : k = 0 ∨ k = 1 ∨ k = 2 ∨ k = 3 ∨ k = 4 ∨ k = 5 ∨ k = 6 ∨ k = 7 ∨ k = 8 ∨ k = 9 ∨ k = 10 ∨ k = 11 ∨ k = 12 ∨ k = 13 ∨ k = 14 ∨ k = 15 ∨ k = 16 ∨ k = 17 ∨ k = 18 ∨ k = 19 := by omega
  rcases h with rfl | rfl | rfl | rfl | rfl | rfl | rfl | rfl | rfl | rfl | rfl | rfl | rfl | rfl | rfl | rfl | rfl | rfl | rfl | rfl
  · exact (bey_0 n Aw Ak lw cw lk ck w ca hca).mono fun e w' h => BeyP.same (k := 0) h rfl
  · exact (bey_1 n Aw Ak lw cw lk ck w ca hca).mono fun e w' h => BeyP.same (k := 1) h rfl
  · exact (bey_2 n Aw Ak lw cw lk ck w ca hca).mono fun e w' h => BeyP.same (k := 2) h rfl
  · exact (bey_3 n Aw Ak lw cw lk ck w ca hca).mono fun e w' h => BeyP.same (k := 3) h rfl
  · exact (bey_4 n Aw Ak lw cw lk ck w ca hca).mono fun e w' h => BeyP.same (k := 4) h rfl
  · exact (bey_5 n Aw Ak lw cw lk ck w ca hca).mono fun e w' h => BeyP.same (k := 5) h rfl
  · exact (bey_6 n Aw Ak lw cw lk ck w ca hca).mono fun e w' h => BeyP.same (k := 6) h rfl
  · exact (bey_7 n Aw Ak lw cw lk ck w ca hca).mono fun e w' h => BeyP.same (k := 7) h rfl
  · exact (bey_8 n Aw Ak lw cw lk ck w ca hca).mono fun e w' h => BeyP.same (k := 8) h rfl
  · exact (bey_9 n Aw Ak lw cw lk ck w ca hca).mono fun e w' h => BeyP.same (k := 9) h rfl
  · exact (bey_10 n Aw Ak lw cw lk ck w ca hca).mono fun e w' h => BeyP.same (k := 10) h rfl
  · exact (bey_11 n Aw Ak lw cw lk ck w ca hca).mono fun e w' h => BeyP.same (k := 11) h rfl
  · exact (bey_12 n Aw Ak lw cw lk ck w ca hca).mono fun e w' h => BeyP.own (k := 12) h
  · exact (bey_13 n Aw Ak lw cw lk ck w ca hca).mono fun e w' h => BeyP.same (k := 13) h rfl
  · exact (bey_14 n Aw Ak lw cw lk ck w ca hca).mono fun e w' h => BeyP.same (k := 14) h rfl
  · exact (bey_15 n Aw Ak lw cw lk ck w ca hca).mono fun e w' h => BeyP.same (k := 15) h rfl
  · exact (bey_16 n Aw Ak lw cw lk ck w ca hca).mono fun e w' h => BeyP.same (k := 16) h rfl
  · exact (bey_17 n Aw Ak lw cw lk ck w ca hca).mono fun e w' h => BeyP.own (k := 17) h
  · exact (bey_18 n Aw Ak lw cw lk ck w ca hca).mono fun e w' h => BeyP.own (k := 18) h
  · exact (bey_19 n Aw Ak lw cw lk ck w ca hca).mono fun e w' h => BeyP.same (k := 19) h rfl
end Go.Proofs.YtnkojoajcdhngaaDoor

/- Layer 8: TreeNames: two specs of its own, and each thing beyond its end. -/
namespace Go.Proofs.YtnkojoajcdhngaaDoor
set_option linter.unusedVariables false
set_option linter.unusedSimpArgs false
set_option maxRecDepth 100000
open Go.RowKit Go.Shelf Go.Lib
set_option maxRecDepth 100000
set_option maxHeartbeats 4000000

theorem byN_chk (k : Nat) (hk : k < 20) : chkC [byN ndT k] = 6 := by
  have h : mayB (byN ndT k) = false := by
    have h : k = 0 ∨ k = 1 ∨ k = 2 ∨ k = 3 ∨ k = 4 ∨ k = 5 ∨ k = 6 ∨ k = 7 ∨ k = 8 ∨ k = 9 ∨ k = 10 ∨ k = 11 ∨ k = 12 ∨ k = 13 ∨ k = 14 ∨ k = 15 ∨ k = 16 ∨ k = 17 ∨ k = 18 ∨ k = 19 := by omega
    rcases h with rfl | rfl | rfl | rfl | rfl | rfl | rfl | rfl | rfl | rfl | rfl | rfl | rfl | rfl | rfl | rfl | rfl | rfl | rfl | rfl
    · exact byN_may0
    · exact byN_may1
    · exact byN_may2
    · exact byN_may3
    · exact byN_may4
    · exact byN_may5
    · exact byN_may6
    · exact byN_may7
    · exact byN_may8
    · exact byN_may9
    · exact byN_may10
    · exact byN_may11
    · exact byN_may12
    · exact byN_may13
    · exact byN_may14
    · exact byN_may15
    · exact byN_may16
    · exact byN_may17
    · exact byN_may18
    · exact byN_may19
  unfold chkC
  rw [chk_one _ (byN_kids k), h]
  rfl
theorem ndT_chk : chkC [ndT] = 0 := by
  unfold chkC
  rw [chk_one ndT rfl, ndT_may]
  rfl
def twoT (n : Nat) : List Tri := [(nd0 4 ⟨#[]⟩ [1, 2], .slice none 0 0, .slice (some ⟨n, 0, none⟩) 2 2), (nd0 4 ⟨#[]⟩ [2], .slice none 0 0, .slice (some ⟨n + 1, 0, none⟩) 1 1), (nd0 9 ⟨#[]⟩ [], .slice none 0 0, .slice none 0 0)]
def twiceT (n : Nat) : List Tri := [(nd0 4 ⟨#[]⟩ [1, 1], .slice none 0 0, .slice (some ⟨n + 1 + 1 + 1 + 1, 0, none⟩) 2 2), (nd0 9 ⟨#[]⟩ [], .slice none 0 0, .slice none 0 0)]
def namesO (n : Nat) : List Obj := [.cells #[.int .i64 1, .int .i64 2] 3 (0, 0), .cells #[.int .i64 2] 3 (0, 0), .cells (cellsT (twoT n)).toArray 39 (0, 0), .cells #[.slice (some ⟨n + 1 + 1, 0, none⟩) 3 3] 25 (0, 0),
  .cells #[.int .i64 1, .int .i64 1] 3 (0, 0), .cells (cellsT (twiceT n)).toArray 39 (0, 0), .cells #[.slice (some ⟨n + 1 + 1 + 1 + 1 + 1, 0, none⟩) 2 2] 25 (0, 0)]
theorem names_nds {n : Nat} {W : World} (g0 : W.heap[n]? = some (.cells (ints [1, 2]).toArray 3 (0, 0))) (g1 : W.heap[n + 1]? = some (.cells (ints [2]).toArray 3 (0, 0))) (g2 : W.heap[n + 1 + 1]? = some (.cells (cellsT (twoT n)).toArray 39 (0, 0))) (g4 : W.heap[n + 1 + 1 + 1 + 1]? = some (.cells (ints [1, 1]).toArray 3 (0, 0))) (g5 : W.heap[n + 1 + 1 + 1 + 1 + 1]? = some (.cells (cellsT (twiceT n)).toArray 39 (0, 0))) :
    NdsAt W.heap.size W (some ⟨n + 1 + 1, 0, none⟩) twoL ∧ NdsAt W.heap.size W (some ⟨n + 1 + 1 + 1 + 1 + 1, 0, none⟩) twiceL := by
  have l0 := lt_of_block g0
  have l1 := lt_of_block g1
  have l4 := lt_of_block g4
  refine ⟨nds_tri (B := W.heap.size) (T := twoT n) (own_full (n := 3) g2 rfl (by decide)) rfl (fun t ht => ?_) (Nat.le_refl _), nds_tri (B := W.heap.size) (T := twiceT n) (own_full (n := 2) g5 rfl (by decide)) rfl (fun t ht => ?_) (Nat.le_refl _)⟩
  · simp only [twoT, List.mem_cons, List.not_mem_nil, or_false] at ht
    rcases ht with rfl | rfl | rfl
    · exact triR_one (ks := [1, 2]) g0 l0
    · exact triR_one (ks := [2]) g1 l1
    · exact triR_nil
  · simp only [twiceT, List.mem_cons, List.not_mem_nil, or_false] at ht
    rcases ht with rfl | rfl
    · exact triR_one (ks := [1, 1]) g4 l4
    · exact triR_nil
theorem check_nds (L : List Nd) (v : Int) (m : Nat) (hm : L.length = m) (hv : chkC L = v) (hok : ∀ n ∈ L, n.ok) (A : Option Addr) (c : Nat) (w : World) (hT : TabsL w) (hS : NdsAt w.heap.size w A L) :
    Calls Tryd.prog 12 #[.agg #[.slice A m c]] w fun e w' => e = .returned (.int .i64 v) ∧ Below w.heap.size w w' := by
  have C := TCheck_any L hok A c w hT.1 hS (Nat.le_refl _)
  rw [hv, hm] at C
  exact C
theorem two_ok : ∀ n ∈ twoL, n.ok := by
  intro x hx
  simp only [twoL, List.mem_cons, List.not_mem_nil, or_false] at hx
  rcases hx with rfl | rfl | rfl
  all_goals exact nd0e_ok _ _ (by omega) (by omega) (by decide)
theorem twice_ok : ∀ n ∈ twiceL, n.ok := by
  intro x hx
  simp only [twiceL, List.mem_cons, List.not_mem_nil, or_false] at hx
  rcases hx with rfl | rfl
  all_goals exact nd0e_ok _ _ (by omega) (by omega) (by decide)
/-- Storing a literal node's cells in the zero ones. -/
theorem fold_node (cs : List Value) (h : cs.length = 19) : List.foldl (fun (cs : Array Value) (x : Value × Nat) => cs.setIfInBounds x.snd x.fst) #[Value.int IntKind.u8 0, Value.string { data := #[] }, Value.string { data := #[] }, Value.string { data := #[] }, Value.int IntKind.i64 0, Value.int IntKind.i64 0, Value.int IntKind.i64 0, Value.int IntKind.i64 0, Value.int IntKind.i64 0, Value.int IntKind.i64 0, Value.bool false, Value.int IntKind.i64 0, Value.int IntKind.i64 0, Value.int IntKind.i64 0, Value.int IntKind.i64 0, Value.int IntKind.i64 0, Value.bool false, Value.slice none 0 0, Value.slice none 0 0] cs.zipIdx = cs.toArray := fold_set cs [Value.int IntKind.u8 0, Value.string { data := #[] }, Value.string { data := #[] }, Value.string { data := #[] }, Value.int IntKind.i64 0, Value.int IntKind.i64 0, Value.int IntKind.i64 0, Value.int IntKind.i64 0, Value.int IntKind.i64 0, Value.int IntKind.i64 0, Value.bool false, Value.int IntKind.i64 0, Value.int IntKind.i64 0, Value.int IntKind.i64 0, Value.int IntKind.i64 0, Value.int IntKind.i64 0, Value.bool false, Value.slice none 0 0, Value.slice none 0 0] 0 (by rw [h]; rfl)
theorem wrRow_own {b g : Nat} {w : World} (h : WrRow b g w) : w.ownsRow b 42 4 (.slice (some ⟨g, 0, none⟩) 16 16) 16 (wrs (padR 16 0)) := by
  have e : padR 16 0 = List.replicate 16 zeroW := by simp [padR]
  rw [e]
  exact ⟨by simp [wrs_len], .inr ⟨g, 16, _, rfl, h.1, h.2, Nat.le_refl _, by decide, by simp [wrs_len], (by rw [List.toList_toArray, List.take_of_length_le (by rw [wrs_len]; simp)])⟩⟩
/-- The node with its first wrappers put in. -/
def NmS (w : World) (B g b : Nat) (k : Nat) (W : World) : Prop := NBox b ndT (.slice (some ⟨g, 0, none⟩) 16 16) (.slice none 0 0) W ∧ Below w.heap.size w W ∧ W.ownsRow B 42 4 (.slice (some ⟨g, 0, none⟩) 16 16) 16 (wrs (padR 16 k))
theorem NmS.on {w : World} {B g b k : Nat} {W V : World} (h : NmS w B g b k W) (hV : Below W.heap.size W V) : NmS w B g b k V := ⟨h.1.on hV, h.2.1.trans (hV.mono h.2.1.size), own_below' h.2.2 hV⟩
theorem NmS.start {w wh : World} {B g b : Nat} {zc : Array Value} {cs : List Value} (hcs : ndC ndT (.slice (some ⟨g, 0, none⟩) 16 16) (.slice none 0 0) = cs) (hb : Below w.heap.size w wh) (hB : w.heap.size ≤ B) (hbB : B ≤ b) (h8 : wh.heap[b]? = some (.cells zc 39 (0, 0))) (hr : WrRow B g wh) : NmS w B g b 0 (wh.setRow b cs.toArray) := by
  have t1 : Turn (fun k => k = b) wh (wh.setRow b cs.toArray) := Turn.row wh _ _
  have hne : ¬ g = b := fun e => by
    have h := hr.2
    rw [e, h8] at h
    injection h with h
    injection h with _ h _
    cases h
  refine ⟨?_, below_turn hb (Nat.le_refl _) t1 (fun k hk => by omega), wrRow_own ⟨hr.1, (t1.block g (blk_lt2 hr.2) hne).trans hr.2⟩⟩
  unfold NBox
  rw [hcs]
  exact setRow_heap wh b zc cs.toArray 39 (0, 0) h8
end Go.Proofs.YtnkojoajcdhngaaDoor
