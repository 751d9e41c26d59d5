/- Layer 8: Find. -/
import Derived.Test.YtnkojoajcdhngaaDoorTr15
import Derived.IntWalk
namespace Go.Proofs.YtnkojoajcdhngaaDoor
set_option linter.unusedVariables false
set_option linter.unusedSimpArgs false
set_option maxRecDepth 100000
open Go.RowKit Go.Shelf Go.Lib
attribute [local go_sem] Oper.semAt_some
set_option maxRecDepth 100000
set_option maxHeartbeats 16000000

theorem subF_mem {K : Nat → List Int} {N : Nat} {up : Bool} : ∀ (f : Nat) (i d : Int), Dep K N f i → ∀ x ∈ subF K up f i d, 0 ≤ x.1 ∧ x.1 < N
  | 0, _, _, h, _, _ => h.elim
  | f + 1, i, d, ⟨h0, h1, hk⟩, x, hx => by
    rw [subF] at hx
    rcases List.mem_append.1 hx with hx | hx
    · rcases List.mem_append.1 hx with hx | hx
      · cases up
        · simp only [Bool.false_eq_true, if_false, List.mem_singleton] at hx
          subst hx
          exact ⟨h0, h1⟩
        · simp at hx
      · obtain ⟨k, hk1, hk2⟩ := List.mem_flatMap.1 hx
        exact subF_mem f k (d + 1) (hk k hk1) x hk2
    · cases up
      · simp at hx
      · simp only [if_true, List.mem_singleton] at hx
        subst hx
        exact ⟨h0, h1⟩
theorem walkL_mem {L : List Nd} {up : Bool} {x : Int × Int} (hx : x ∈ walkL up L) : 0 ≤ x.1 ∧ x.1 < L.length := by
  unfold walkL at hx
  split at hx
  · rename_i h
    obtain ⟨⟨U, D⟩, hUD⟩ : ∃ x, parE L = some x := Option.isSome_iff_exists.1 h
    have hTO := parE_ok hUD
    exact subF_mem 64 0 1 (hTO.depth (Int.le_refl 0) (by have := hTO.n1; omega)) x hx
  · cases hx
/-- The name of a node. -/
def nmAt (L : List Nd) (i : Int) : ByteArray := ((L[i.toNat]?).map Nd.name).getD ByteArray.empty
def fndE (L : List Nd) (nm : ByteArray) : Int × Int := if chkB L then (match (walkL false L).find? (fun x => (nmAt L x.1).toList == nm.toList) with | some x => (x.1, 0) | none => (0, 7)) else (0, 6)
/-- The four boxes. -/
structure FBx (n : Nat) (w : World) (A : Option Addr) (m c : Nat) (nm : ByteArray) (W : World) : Prop where
  b0 : W.heap[n]? = some (.cells #[.slice A m c] 25 (0, 0))
  b1 : W.heap[n + 1]? = some (.cells #[.string nm] 9 (0, 0))
  b2 : Box1 W (n + 1 + 1) (.int .i64 0)
  b3 : Box1 W (n + 1 + 1 + 1) (.int .i64 0)
  bl : Below n w W
theorem FBx.turn {n D : Nat} {w : World} {A : Option Addr} {m c : Nat} {nm : ByteArray} {W W' : World} (h : FBx n w A m c nm W) (hn : w.heap.size = n) (t : Turn (fun k => k = D ∨ k = D + 1) W W') (hD : n + 3 < D) : FBx n w A m c nm W' :=
  ⟨(t.block _ (lt_of_block h.b0) (by omega)).trans h.b0, (t.block _ (lt_of_block h.b1) (by omega)).trans h.b1, h.b2.turn t (by omega), h.b3.turn t (by omega), below_turn h.bl (Nat.le_of_eq hn.symm) t (fun k hk => by omega)⟩
theorem FBx.below {n : Nat} {w : World} {A : Option Addr} {m c : Nat} {nm : ByteArray} {W W' : World} (h : FBx n w A m c nm W) (hn : w.heap.size = n) (hb : Below W.heap.size W W') : FBx n w A m c nm W' :=
  ⟨(hb.block _ (lt_of_block h.b0)).trans h.b0, (hb.block _ (lt_of_block h.b1)).trans h.b1, h.b2.below hb h.b2.lt, h.b3.below hb h.b3.lt, h.bl.trans (hb.mono (by have := h.bl.size; omega))⟩
def FnI (n : Nat) (w : World) (A : Option Addr) (m c : Nat) (L : List Nd) (nm : ByteArray) (pre : List (Int × Int)) (M : Nat → Prop) (W : World) : Prop := (∀ k, ¬ M k) ∧ FBx n w A m c nm W ∧ ∀ x ∈ pre, ((nmAt L x.1).toList == nm.toList) = false
def FnX (n : Nat) (w : World) (Z : Int × Int) (c : Code) (_ : List (Int × Int)) (_ : Nat → Prop) (W : World) : Prop := c = .ret ∧ Below n w W ∧ Box1 W (n + 1 + 1) (.int .i64 Z.1) ∧ Box1 W (n + 1 + 1 + 1) (.int .i64 Z.2)
theorem NdsAt.name {B : Nat} {W : World} {A : Option Addr} {L : List Nd} (h : NdsAt B W A L) {i : Nat} (hi : i < L.length) : ∃ g o, A = some ⟨g, o, none⟩ ∧ g < B ∧ W.cell? ⟨g, o + i * 19 + 1, none⟩ = some (.string (L[i]'hi).name) := by
  obtain ⟨g, o, Aw, cw, Ak, ck, rfl, hg, _, _, _, f1, _⟩ := h.nd hi
  exact ⟨g, o, rfl, hg, f1⟩
theorem find_hit {α : Type} {p : α → Bool} : ∀ (pre : List α) (x : α) (tl : List α), (∀ y ∈ pre, p y = false) → p x = true → (pre ++ x :: tl).find? p = some x
  | [], x, tl, _, hx => by simp [hx]
  | y :: pre, x, tl, h, hx => by
    rw [List.cons_append, List.find?_cons_of_neg (by rw [h y List.mem_cons_self]; decide)]
    exact find_hit pre x tl (fun z hz => h z (List.mem_cons_of_mem _ hz)) hx
theorem fnd_hit {L : List Nd} {nm : ByteArray} (hc : chkB L = true) {pre : List (Int × Int)} {x : Int × Int} (hs : pre ++ [x] <+: walkL false L) (hp : ∀ x ∈ pre, ((nmAt L x.1).toList == nm.toList) = false) (hx : ((nmAt L x.1).toList == nm.toList) = true) : fndE L nm = (x.1, 0) := by
  obtain ⟨tl, ht⟩ := hs
  unfold fndE
  rw [if_pos hc, ← ht, List.append_assoc, List.singleton_append, find_hit pre x tl hp hx]
theorem fnd_no {L : List Nd} {nm : ByteArray} (hc : chkB L = true) (hp : ∀ x ∈ walkL false L, ((nmAt L x.1).toList == nm.toList) = false) : fndE L nm = (0, 7) := by
  unfold fndE
  rw [if_pos hc, List.find?_eq_none.2 (fun x hx => by rw [hp x hx]; decide)]
theorem FBx.drew {n : Nat} {w : World} {A : Option Addr} {m c : Nat} {nm : ByteArray} {W : World} (h : FBx n w A m c nm W) : FBx n w A m c nm W.drew :=
  ⟨h.b0, h.b1, h.b2.same rfl, h.b3.same rfl, h.bl.drew⟩
theorem tl_beq (x y : ByteArray) : (x.toList == y.toList) = true ↔ x = y := by
  rw [beq_iff_eq, ByteArray.toList_eq, ByteArray.toList_eq]
  exact ⟨fun h => ByteArray.ext (Array.toList_inj.mp h), fun h => by rw [h]⟩
theorem Find_any {B : Nat} (L : List Nd) (hok : ∀ n ∈ L, n.ok) (A : Option Addr) (c : Nat) (nm : ByteArray) (w : World) (hT : Tabs w) (hA : NdsAt B w A L) (hB : B ≤ w.heap.size) (hl : L.length ≤ 9000000000000) :
    Calls Tryd.prog 31 #[.agg #[.slice A L.length c], .string nm] w fun e w' => e = .returned (.tuple #[.int .i64 (fndE L nm).1, .int .i64 (fndE L nm).2]) ∧ Below w.heap.size w w' := by
  obtain ⟨n, hn⟩ : ∃ n, w.heap.size = n := ⟨_, rfl⟩
  obtain ⟨W, hW⟩ : ∃ W, allocs w [Obj.cells #[.slice A L.length c] 25 (0, 0), Obj.cells #[.string nm] 9 (0, 0), Obj.cells #[.int .i64 0] 3 (0, 0), Obj.cells #[.int .i64 0] 27 (0, 0)] = W := ⟨_, rfl⟩
  have hsz := allocs_size [Obj.cells #[.slice A L.length c] 25 (0, 0), Obj.cells #[.string nm] 9 (0, 0), Obj.cells #[.int .i64 0] 3 (0, 0), Obj.cells #[.int .i64 0] 27 (0, 0)] w
  have hFB : FBx n w A L.length c nm W := by
    rw [← hW, ← hn]
    have g := allocs_get [Obj.cells #[.slice A L.length c] 25 (0, 0), Obj.cells #[.string nm] 9 (0, 0), Obj.cells #[.int .i64 0] 3 (0, 0), Obj.cells #[.int .i64 0] 27 (0, 0)] w
    exact ⟨g 0 _ rfl, g 1 _ rfl, Box1.of_heap (g 2 _ rfl), Box1.of_heap (g 3 _ rfl), allocs_below _ _⟩
  rw [hW, hn] at hsz
  simp only [List.length_cons, List.length_nil, Nat.zero_add, Nat.reduceAdd] at hsz
  simp only [allocs] at hW
  have C := TCheck_any L hok A c W (tabs_on hT (by rw [hn]; exact hFB.bl)) (hA.below (hFB.bl.mono (by omega))) (by omega)
  have KW := fun (w2 : World) (hb : Below W.heap.size W w2) => Walk_any L hok A c w2 (tabs_on hT (by rw [hn]; exact (hFB.below hn hb).bl)) (hA.below ((hFB.below hn hb).bl.mono (by omega))) (by have := hb.size; omega) hl
  have HW := hid hW
  have HFB := hid hFB
  have HA := hid hA
  have HWK := hid KW
  have HTB := hid hT
  have k0 : W.cell? ⟨n, 0, none⟩ = some (.slice A L.length c) := by rw [blk_cell hFB.b0]; rfl
  unfold chkC at C
  obtain ⟨m, hm⟩ : ∃ m, L.length = m := ⟨_, rfl⟩
  have HM := hid hm
  have HN := hid hn
  cases hc : chkB L with
  | false =>
    rw [hc] at C
    have HZ := hid (show fndE L nm = (0, 6) by unfold fndE; rw [if_neg (by rw [hc]; decide)])
    clear hA KW hT hok hc hW hFB HWK HA
    rw [hm] at C k0 HW ⊢
    clear hm hn
    go_enter Tryd.func31, Tryd.ntmps31
    go_upto_region 1 with fail
    rw [HW.out, HN.out]
    go_wp2_with fail
    with_reducible refine C.mono ?_
    rintro e w2 ⟨rfl, hb2⟩
    have F2 := HFB.out.below HN.out hb2
    have P2 := hid ((F2.b2.set (.int .i64 0)).off (p := ⟨n + 1 + 1 + 1, 0, none⟩) (by show n + 1 + 1 ≠ n + 1 + 1 + 1; omega) (.int .i64 6))
    have P3 := hid ((F2.b3.off (p := ⟨n + 1 + 1, 0, none⟩) (by show n + 1 + 1 + 1 ≠ n + 1 + 1; omega) (.int .i64 0)).set (.int .i64 6))
    have HF := hid ((F2.bl.setCell (p := ⟨n + 1 + 1, 0, none⟩) (by show n ≤ n + 1 + 1; omega) (.int .i64 0)).setCell (p := ⟨n + 1 + 1 + 1, 0, none⟩) (by show n ≤ n + 1 + 1 + 1; omega) (.int .i64 6))
    obtain ⟨c2, f2⟩ := F2.b2
    obtain ⟨c3, f3⟩ := F2.b3
    clear C k0 hb2 F2
    go_wp2
    rw [HZ.out, HN.out]
    generalize (w2.setCell ⟨n + 1 + 1, 0, none⟩ (.int .i64 0)).setCell ⟨n + 1 + 1 + 1, 0, none⟩ (.int .i64 6) = E at *
    obtain ⟨p2, _⟩ := P2.out
    obtain ⟨p3, _⟩ := P3.out
    refine bodyPost_ret (v := .tuple #[.int .i64 0, .int .i64 6]) (by simp [results, Tryd.results31, go_sem, *]) rfl ⟨rfl, HF.out⟩
  | true =>
    rw [hc] at C
    have HC := hid hc
    clear hA KW hT hc hW hFB
    rw [hm] at C k0 HW ⊢
    clear hm hn
    rw [HN.out]
    refine (callsIn_wide (n := 6)).1 ?_
    refine callsIn_of_wp_marks Tryd.func31 rfl trivial ?_ rfl
    simp only [Tryd.ntmps31, List.size_toArray, List.length_cons, List.length_nil, Nat.reduceAdd, Nat.reduceSub, Array.replicate_succ, Array.replicate_zero, List.push_toArray, List.append_toArray, List.nil_append, List.cons_append]
    gi_wp2_with fail
    rw [HW.out, HN.out]
    refine ⟨trivial, (callsIn_wide.2 C).mono ?_⟩
    rintro e w2 ⟨rfl, hb2⟩
    have F2 := HFB.out.below HN.out hb2
    have KW2 := HWK.out w2 hb2
    have k2 : w2.cell? ⟨n, 0, none⟩ = some (.slice A m c) := by rw [blk_cell F2.b0, HM.out]; rfl
    rw [HM.out] at KW2
    clear C k0 HWK
    gi_wp2_with fail
    refine ⟨trivial, (callsIn_wide.2 KW2).mono ?_⟩
    rintro e w3 ⟨hb3, fv, gf, lb, R, rfl, hit⟩
    obtain rfl := hit.v
    have F3 := F2.below HN.out hb3
    rw [HM.out] at F3
    have hs5 := F3.bl.size
    have hs6 := F3.b3.lt
    have hs3 := hb3.size
    have hs2 := hb2.size
    have HF3 := hid F3
    have HIT := hid hit
    clear KW2 k2 hb2 hb3 F2 F3 hit HFB HW
    gi_wp2
    refine wp_rangeIter2 rfl (by decide) (gf := gf) (lb := lb) rfl trivial HIT.out.eg (HIT.out.it _ w3 (Nat.le_refl _) fun _ _ => rfl) (fun _ => rfl)
      (FnI n w A m c L nm) (FnX n w (fndE L nm)) (fun _ => False) (fun k h => h.elim) (fun k _ h => h) ?hlt ?hI ?hIx ?h0
      (fun x => { tmps := #[.agg #[.slice A m c], .string nm, .pointer (some ⟨n, 0, none⟩), .pointer (some ⟨n + 1, 0, none⟩), .pointer (some ⟨n + 1 + 1, 0, none⟩), .pointer (some ⟨n + 1 + 1 + 1, 0, none⟩), .int .i64 0, .int .i64 x.1, .agg #[.slice A m c], .int .i64 0, .int .i64 0, .bool false, undef, .agg #[.slice A m c], .func (.func gf) #[] lb, .int .i64 x.1, .int .i64 x.2, undef, undef, undef, undef, undef, undef, undef, undef, undef], defers := [] })
      ?assign ?body ?done ?stop
    case hlt => exact fun s M W k h hk => absurd hk (h.1 k)
    case hI => exact fun s M W W' h t => ⟨h.1, h.2.1.turn HN.out t (by omega), h.2.2⟩
    case hIx => exact fun c s M W W' h t => ⟨h.1, below_turn h.2.1 (Nat.le_of_eq HN.out.symm) t (fun k hk => by have := HN.out; omega), h.2.2.1.turn t (by omega), h.2.2.2.turn t (by omega)⟩
    case h0 => exact ⟨fun k h => h, HF3.out, fun x hx => by cases hx⟩
    case assign =>
      intro l x W K hK
      gi_wp2
      exact hK
    case body =>
      rintro l pre x M W ⟨hM, hF, hp⟩ hsp hlt
      have hx := walkL_mem (L := L) (up := false) (x := x) (hsp.subset (by simp))
      have hil : x.1.toNat < L.length := by omega
      have hsF := hF.bl.size
      obtain ⟨g, o, rfl, hg, f1⟩ := (HA.out.below (hF.bl.mono (by have := HN.out; omega))).name hil
      have hnm : nmAt L x.1 = (L[x.1.toNat]'hil).name := by unfold nmAt; rw [List.getElem?_eq_getElem hil]; rfl
      rw [← hnm] at f1
      have hx0 := hx.1
      have hx1 : x.1 < (m : Int) := by have := HM.out; omega
      have k0 : W.cell? ⟨n, 0, none⟩ = some (.slice (some ⟨g, o, none⟩) m c) := by rw [blk_cell hF.b0]; rfl
      have k1 : W.cell? ⟨n + 1, 0, none⟩ = some (.string nm) := by rw [blk_cell hF.b1]; rfl
      have hmx := mixed
      have HF := hid hF
      have HP := hid hp
      have HSP := hid hsp
      have HNM := hid hnm
      obtain ⟨nx, hnx⟩ : ∃ nx, nmAt L x.1 = nx := ⟨_, rfl⟩
      rw [hnx] at f1
      have HNX := hid hnx
      clear hp hsp hF hnm hnx HNM hil hx
      have hix : (x.1.toNat : Int) = x.1 := by omega
      have hxm : x.1.toNat < m := by omega
      by_cases hq : (nx.toList == nm.toList) = true
      · have HZ := hid (fnd_hit HC.out HSP.out HP.out (by rw [HNX.out]; exact hq))
        have L2 := HF.out.b2
        have L3 := HF.out.b3
        obtain ⟨c2, f2⟩ := L2
        obtain ⟨c3, f3⟩ := L3
        gi_wp2
        have hfin : ∀ a, leftBy2 (FnI n w (some ⟨g, o, none⟩) m c L nm) (FnX n w (fndE L nm)) (pre ++ [x]) M W .ret a ((W.drew.setCell ⟨n + 1 + 1, 0, none⟩ (.int .i64 x.1)).setCell ⟨n + 1 + 1 + 1, 0, none⟩ (.int .i64 0)) := fun a => by
          refine ⟨.of (((KeepsOthers.drew _).trans (KeepsOthers.setCell _ _ _)).trans (KeepsOthers.setCell _ _ _)), M, rfl, (HF.out.drew.bl.setCell (p := ⟨n + 1 + 1, 0, none⟩) (by show n ≤ n + 1 + 1; omega) _).setCell (p := ⟨n + 1 + 1 + 1, 0, none⟩) (by show n ≤ n + 1 + 1 + 1; omega) _, ?_, ?_⟩
          · rw [HZ.out]
            exact (HF.out.drew.b2.set _).off (by show n + 1 + 1 ≠ n + 1 + 1 + 1; omega) _
          · rw [HZ.out]
            exact (HF.out.drew.b3.off (by show n + 1 + 1 + 1 ≠ n + 1 + 1; omega) _).set _
        gi_region_with_o (fail)
        all_goals
          gi_wp2
          exact hfin _
      · have hql : (nx.toList == nm.toList) = false := by simpa using hq
        have HQ := hid hql
        clear hq
        gi_wp2
        have hfin : ∀ a, leftBy2 (FnI n w (some ⟨g, o, none⟩) m c L nm) (FnX n w (fndE L nm)) (pre ++ [x]) M W .normal a W.drew := fun a => by
          refine ⟨.of (KeepsOthers.drew _), M, ⟨hM, HF.out.drew, fun y hy => ?_⟩, Nat.le_refl _, fun _ _ _ => rfl, fun _ h => .inl h⟩
          rcases List.mem_append.1 hy with hy | hy
          · exact HP.out y hy
          · rw [List.mem_singleton] at hy
            subst hy
            rw [HNX.out]
            exact HQ.out
        gi_region_with_o (fail)
        all_goals
          gi_wp2
          exact hfin _
    case done =>
      rintro xs M W rfl ⟨hM, hF, hp⟩ hD
      have HZ := hid (fnd_no HC.out hp)
      have HF := hid hF
      have L2 := hF.b2
      have L3 := hF.b3
      obtain ⟨c2, f2⟩ := L2
      obtain ⟨c3, f3⟩ := L3
      have hDl := lt_of_block hD
      have HD := hid hD
      clear hp hF hD
      gi_wp2
      refine ⟨by simp, .inl ⟨_, _, rfl, run_takeDeferred (w := (W.setCell ⟨n + 1 + 1, 0, none⟩ (.int .i64 0)).setCell ⟨n + 1 + 1 + 1, 0, none⟩ (.int .i64 7)) (ds := []) ?_, ?_⟩⟩
      · rw [Below.heap_setCell _ _ _ _ (by show w3.heap.size ≠ n + 1 + 1 + 1; omega), Below.heap_setCell _ _ _ _ (by show w3.heap.size ≠ n + 1 + 1; omega)]
        exact HD.out
      · have t4 := fun V => Turn.put (W := V) (C := fun k => k = w3.heap.size) (l := w3.heap.size) rfl (.deferred none)
        have P2 := hid (((HF.out.b2.set (.int .i64 0)).off (p := ⟨n + 1 + 1 + 1, 0, none⟩) (by show n + 1 + 1 ≠ n + 1 + 1 + 1; omega) (.int .i64 7)).turn (t4 _) (by omega))
        have P3 := hid (((HF.out.b3.off (p := ⟨n + 1 + 1, 0, none⟩) (by show n + 1 + 1 + 1 ≠ n + 1 + 1; omega) (.int .i64 0)).set (.int .i64 7)).turn (t4 _) (by omega))
        have hBE := hid (below_turn ((HF.out.bl.setCell (p := ⟨n + 1 + 1, 0, none⟩) (by show n ≤ n + 1 + 1; omega) (.int .i64 0)).setCell (p := ⟨n + 1 + 1 + 1, 0, none⟩) (by show n ≤ n + 1 + 1 + 1; omega) (.int .i64 7)) (Nat.le_of_eq HN.out.symm) (t4 _) (fun k hk => by omega))
        rw [HZ.out]
        generalize ((W.setCell ⟨n + 1 + 1, 0, none⟩ (.int .i64 0)).setCell ⟨n + 1 + 1 + 1, 0, none⟩ (.int .i64 7)).putObj w3.heap.size (.deferred none) = E at *
        obtain ⟨p2, _⟩ := P2.out
        obtain ⟨p3, _⟩ := P3.out
        exact ⟨.tuple #[.int .i64 0, .int .i64 7], by simp [results, Tryd.results31, go_sem, *], rfl, hBE.out⟩
    case stop =>
      rintro c pre M W hSp ⟨rfl, hbl, b2, b3⟩ hD
      have hDl := lt_of_block hD
      gi_wp2
      refine ⟨by simp, .inl ⟨_, _, rfl, run_takeDeferred hD, ?_⟩⟩
      have P2 := hid (b2.turn (Turn.put (C := fun k => k = w3.heap.size) (l := w3.heap.size) rfl (.deferred none)) (by omega))
      have P3 := hid (b3.turn (Turn.put (C := fun k => k = w3.heap.size) (l := w3.heap.size) rfl (.deferred none)) (by omega))
      have hBE := hid (below_turn hbl (Nat.le_of_eq HN.out.symm) (Turn.put (C := fun k => k = w3.heap.size) (l := w3.heap.size) rfl (.deferred none)) (fun k hk => by omega))
      clear hD hbl b2 b3
      generalize W.putObj w3.heap.size (.deferred none) = E at *
      obtain ⟨p2, _⟩ := P2.out
      obtain ⟨p3, _⟩ := P3.out
      exact ⟨.tuple #[.int .i64 (fndE L nm).1, .int .i64 (fndE L nm).2], by simp [results, Tryd.results31, go_sem, *], rfl, hBE.out⟩
end Go.Proofs.YtnkojoajcdhngaaDoor
