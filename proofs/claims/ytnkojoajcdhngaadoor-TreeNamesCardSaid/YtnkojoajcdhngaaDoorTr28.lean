/- Layer 8: Move. -/
import Derived.Test.YtnkojoajcdhngaaDoorTr26
import Derived.Test.YtnkojoajcdhngaaDoorTr27
import Derived.Test.YtnkojoajcdhngaaDoorTrPp
import Derived.Test.YtnkojoajcdhngaaDoorBasePiv
import Derived.Test.YtnkojoajcdhngaaDoorMonoA
namespace Go.Proofs.YtnkojoajcdhngaaDoor
set_option linter.unusedVariables false
set_option linter.unusedSimpArgs false
set_option maxRecDepth 100000
open Go.RowKit Go.Shelf Go.Lib
attribute [local go_sem] Oper.semAt_some
set_option maxRecDepth 100000
set_option maxHeartbeats 16000000

def movR (L : List Nd) (node dst at_ : Int) : List Nd := formL L (insK (takF L node) dst.toNat at_.toNat node) (ordL (insK (takF L node) dst.toNat at_.toNat node) 0)
def moveE (L : List Nd) (node dst at_ : Int) : List Nd × Int := if askC L [node, dst] ≠ 0 then ([], askC L [node, dst]) else if node = 0 then ([], 2) else if dst ∈ ordL (kidF L L.length) node then ([], 80)
  else if at_ < 0 ∨ ((takF L node dst.toNat).length : Int) < at_ then ([], 2) else (toldL (movR L node dst at_), chkC (movR L node dst at_))
/-- The four boxes. -/
structure MBx (n : Nat) (w : World) (A : Option Addr) (m c : Nat) (dst : Int) (W : World) : Prop where
  b0 : Box1 W n (.slice A m c)
  b1 : Box1 W (n + 1) (.int .i64 dst)
  b2 : Box1 W (n + 1 + 1) (.slice none 0 0)
  b3 : Box1 W (n + 1 + 1 + 1) (.int .i64 0)
  bl : Below n w W
theorem MBx.turn {n D : Nat} {w : World} {A : Option Addr} {m c : Nat} {dst : Int} {W W' : World} (h : MBx n w A m c dst W) (hn : w.heap.size = n) (t : Turn (fun k => k = D ∨ k = D + 1) W W') (hD : n + 3 < D) : MBx n w A m c dst W' :=
  ⟨h.b0.turn t (by omega), h.b1.turn t (by omega), h.b2.turn t (by omega), h.b3.turn t (by omega), below_turn h.bl (Nat.le_of_eq hn.symm) t (fun k hk => by omega)⟩
theorem MBx.below {n : Nat} {w : World} {A : Option Addr} {m c : Nat} {dst : Int} {W W' : World} (h : MBx n w A m c dst W) (hn : w.heap.size = n) (hb : Below W.heap.size W W') : MBx n w A m c dst W' := by
  have hs := h.bl.size
  exact ⟨h.b0.below hb h.b0.lt, h.b1.below hb h.b1.lt, h.b2.below hb h.b2.lt, h.b3.below hb h.b3.lt, h.bl.trans (hb.mono (by omega))⟩
theorem MBx.drew {n : Nat} {w : World} {A : Option Addr} {m c : Nat} {dst : Int} {W : World} (h : MBx n w A m c dst W) : MBx n w A m c dst W.drew :=
  ⟨h.b0.same rfl, h.b1.same rfl, h.b2.same rfl, h.b3.same rfl, h.bl.drew⟩
theorem MBx.turnC {C : Nat → Prop} {n : Nat} {w : World} {A : Option Addr} {m c : Nat} {dst : Int} {W W' : World} (h : MBx n w A m c dst W) (hn : w.heap.size = n) (t : Turn C W W') (hC : ∀ k, C k → n + 3 < k) : MBx n w A m c dst W' :=
  ⟨h.b0.turn t (fun h => by have := hC _ h; omega), h.b1.turn t (fun h => by have := hC _ h; omega), h.b2.turn t (fun h => by have := hC _ h; omega), h.b3.turn t (fun h => by have := hC _ h; omega), below_turn h.bl (Nat.le_of_eq hn.symm) t (fun k hk hc => by have := hC _ hc; omega)⟩
theorem insK_out {K : Nat → List Int} {N d a : Nat} {node : Int} (h : ∀ i, N ≤ i → K i = []) (hd : d < N) : ∀ i, N ≤ i → insK K d a node i = [] := fun i hi => by
  unfold insK
  rw [if_neg (by omega), h i hi]
/-- The two results. -/
structure MRes (n : Nat) (w : World) (v : Value) (z : Int) (E : World) : Prop where
  b2 : Box1 E (n + 1 + 1) v
  b3 : Box1 E (n + 1 + 1 + 1) (.int .i64 z)
  bl : Below n w E
theorem MBx.res {n : Nat} {w : World} {A : Option Addr} {m c : Nat} {dst : Int} {W : World} (h : MBx n w A m c dst W) (v : Value) (z : Int) : MRes n w v z ((W.setCell ⟨n + 1 + 1, 0, none⟩ v).setCell ⟨n + 1 + 1 + 1, 0, none⟩ (.int .i64 z)) :=
  ⟨(h.b2.set v).off (by show n + 1 + 1 ≠ n + 1 + 1 + 1; omega) _, (h.b3.off (by show n + 1 + 1 + 1 ≠ n + 1 + 1; omega) v).set _, (h.bl.setCell (by show n ≤ n + 1 + 1; omega) v).setCell (by show n ≤ n + 1 + 1 + 1; omega) _⟩
theorem MRes.put {n D : Nat} {w : World} {v : Value} {z : Int} {E : World} (h : MRes n w v z E) (hn : w.heap.size = n) (hD : n + 3 < D) (o : Obj) : MRes n w v z (E.putObj D o) :=
  ⟨h.b2.turn (Turn.put (C := fun k => k = D) (l := D) rfl o) (by omega), h.b3.turn (Turn.put (C := fun k => k = D) (l := D) rfl o) (by omega), below_turn h.bl (Nat.le_of_eq hn.symm) (Turn.put (C := fun k => k = D) (l := D) rfl o) (fun k hk => by omega)⟩
def MvI (n : Nat) (w : World) (A : Option Addr) (m c : Nat) (dst : Int) (pre : List (Int × Int)) (M : Nat → Prop) (W : World) : Prop := (∀ k, ¬ M k) ∧ MBx n w A m c dst W ∧ ∀ x ∈ pre, x.1 ≠ dst
def MvX (n : Nat) (w : World) (dst : Int) (c : Code) (pre : List (Int × Int)) (_ : Nat → Prop) (W : World) : Prop := c = .ret ∧ dst ∈ pre.map (·.1) ∧ MRes n w (.slice none 0 0) 80 W
theorem Move_any {B : Nat} (L : List Nd) (hok : ∀ n ∈ L, n.ok) (A : Option Addr) (c : Nat) (node dst at_ : Int) (w : World) (hT : Tabs w) (hA : NdsAt B w A L) (hB : B ≤ w.heap.size) (hl : L.length ≤ 9000000000000) :
    Calls Tryd.prog 20 #[.agg #[.slice A L.length c], .int .i64 node, .int .i64 dst, .int .i64 at_] w (SpcP w (moveE L node dst at_).1 (moveE L node dst at_).2) := by
  obtain ⟨n, hn⟩ : ∃ n, w.heap.size = n := ⟨_, rfl⟩
  obtain ⟨W, hW⟩ : ∃ W, allocs w [Obj.cells #[.slice A L.length c] 25 (0, 0), Obj.cells #[.int .i64 dst] 3 (0, 0), Obj.cells #[.slice none 0 0] 25 (0, 0), Obj.cells #[.int .i64 0] 27 (0, 0)] = W := ⟨_, rfl⟩
  have hMB : MBx n w A L.length c dst W := by
    rw [← hW, ← hn]
    have g := allocs_get [Obj.cells #[.slice A L.length c] 25 (0, 0), Obj.cells #[.int .i64 dst] 3 (0, 0), Obj.cells #[.slice none 0 0] 25 (0, 0), Obj.cells #[.int .i64 0] 27 (0, 0)] w
    exact ⟨Box1.of_heap (g 0 _ rfl), Box1.of_heap (g 1 _ rfl), Box1.of_heap (g 2 _ rfl), Box1.of_heap (g 3 _ rfl), allocs_below _ _⟩
  have hs1 := hMB.bl.size
  have hl3 := hMB.b3.lt
  have hA1 := hA.below (hMB.bl.mono (by omega))
  have hTW : Tabs W := tabs_on hT (by rw [hn]; exact hMB.bl)
  have C := asked2 L hok A c node dst W hTW hA1 (by omega) (by omega)
  have hs4 : W.heap.size = n + 1 + 1 + 1 + 1 := by
    have := allocs_size [Obj.cells #[.slice A L.length c] 25 (0, 0), Obj.cells #[.int .i64 dst] 3 (0, 0), Obj.cells #[.slice none 0 0] 25 (0, 0), Obj.cells #[.int .i64 0] 27 (0, 0)] w
    rw [hW, hn] at this
    simp only [List.length_cons, List.length_nil] at this
    omega
  simp only [allocs] at hW
  have HW := hid hW
  have HS4 := hid hs4
  clear hs4
  have HMB := hid hMB
  have HN := hid hn
  have k0 := hMB.b0.c
  have k1 := hMB.b1.c
  have h0 := @askC_zero L [node, dst]
  unfold moveE
  obtain ⟨E, hE⟩ : ∃ E, askC L [node, dst] = E := ⟨_, rfl⟩
  rw [hE] at h0 C ⊢
  by_cases he : E = 0
  · subst he
    rw [if_neg (by decide)]
    obtain ⟨hc, ho⟩ := h0 rfl
    unfold chkB at hc
    obtain ⟨⟨U, D⟩, hUD⟩ : ∃ x, parE L = some x := Option.isSome_iff_exists.1 hc
    have hTO := parE_ok hUD
    simp only [List.any_cons, List.any_nil, Bool.or_false, Bool.or_eq_false_iff] at ho
    obtain ⟨o1, o2⟩ := outB_false ho.1
    obtain ⟨p1, p2⟩ := outB_false ho.2
    by_cases hz : node = 0
    · subst hz
      rw [if_pos rfl]
      obtain ⟨m, hm⟩ : ∃ m, L.length = m := ⟨_, rfl⟩
      rw [hm] at C HW k0 HMB ⊢
      clear hc ho h0 hE hUD hA hA1 hok hT hTW hW hMB hl hTO hn hm
      go_enter Tryd.func20, Tryd.ntmps20
      go_upto_region 1 with fail
      rw [HW.out, HN.out]
      go_wp2_with fail
      with_reducible refine C.mono ?_
      rintro e w2 ⟨rfl, hb2⟩
      have F2 := HMB.out.below HN.out hb2
      have R2 := hid (F2.res (.slice none 0 0) 2)
      obtain ⟨c2, f2⟩ := F2.b2
      obtain ⟨c3, f3⟩ := F2.b3
      have l2 := F2.b2.lt
      have l3 := F2.b3.lt
      clear C k0 k1 hb2 F2
      go_wp2
      generalize (w2.setCell ⟨n + 1 + 1, 0, none⟩ (.slice none 0 0)).setCell ⟨n + 1 + 1 + 1, 0, none⟩ (.int .i64 2) = E9 at *
      obtain ⟨c9, _⟩ := R2.out.b2
      obtain ⟨c8, _⟩ := R2.out.b3
      refine bodyPost_ret (v := .tuple #[.agg #[.slice none 0 0], .int .i64 2]) (by simp [results, Tryd.results20, go_sem, *]) rfl ⟨none, 0, rfl, SpecO.nil, by rw [HN.out]; exact R2.out.bl⟩
    · rw [if_neg hz]
      have hkt := hTO.kt
      have hn2 := hTO.n2
      have hn1 := hTO.n1
      have KC := fun (w2 : World) (hb : Below W.heap.size W w2) => kids_any L hok A c w2 (hA1.below (hb.mono (by omega))) (by have := hb.size; omega) (by omega)
      have BC := fun (w3 : World) (gl : Nat) (vs : List Value) (base : Nat) (hR : Rws base gl (kidF L L.length) vs w3) (hvl : vs.length = L.length) =>
        below_walk false node 1 200 L.length w3 hR (by omega) (fun i => Nat.le_trans (hkt.lens (by omega) (kidF_out L) i) (by decide)) (by rw [hvl]; exact hkt.dep o1 o2 (by decide)) (by decide) (by decide) w3.heap.size hR.lt (fun i v k hv hk => ((hR.ow i v hv).lt k hk).2)
      unfold KidsP at KC
      have HORD := hid (show (subF (kidF L L.length) false 200 node 1).map (·.1) = ordL (kidF L L.length) node from rfl)
      obtain ⟨m, hm⟩ : ∃ m, L.length = m := ⟨_, rfl⟩
      have HTO := hid hTO
      have HKC := hid KC
      have HBC := hid BC
      have HM := hid hm
      have HA := hid hA
      have HO := hid hok
      have HT := hid hT
      rw [hm] at C HW k0 HMB HKC HBC HORD hn1 hn2 o2 p2 ⊢
      obtain ⟨xs, hxs⟩ : ∃ xs, subF (kidF L m) false 200 node 1 = xs := ⟨_, rfl⟩
      rw [hxs] at HBC HORD
      have hz0 : (node == 0) = false := beq_eq_false_iff_ne.2 hz
      obtain ⟨Z, hZ⟩ : ∃ Z, (if dst ∈ ordL (kidF L m) node then (([], 80) : List Nd × Int) else if at_ < 0 ∨ ((takF L node dst.toNat).length : Int) < at_ then ([], 2) else (toldL (movR L node dst at_), chkC (movR L node dst at_))) = Z := ⟨_, rfl⟩
      rw [hZ]
      have HZ := hid hZ
      clear hc ho h0 hE hUD hA hA1 hok hT hTW hW hl KC BC hTO hn hm hkt hMB hxs hZ
      refine (callsIn_wide (n := 6)).1 ?_
      refine callsIn_of_wp_marks Tryd.func20 rfl trivial ?_ rfl
      simp only [Tryd.ntmps20, List.size_toArray, List.length_cons, List.length_nil, Nat.reduceAdd, Nat.reduceSub, Array.replicate_succ, Array.replicate_zero, List.push_toArray, List.append_toArray, List.nil_append, List.cons_append]
      gi_wp2_with fail
      rw [HW.out, HN.out]
      rw [HS4.out] at C
      refine ⟨trivial, (callsIn_wide.2 C).mono ?_⟩
      rintro e w2 ⟨rfl, hb2⟩
      rw [← HS4.out] at hb2
      have F2 := HMB.out.below HN.out hb2
      have k2 := F2.b0.c
      have KC2 := HKC.out w2 hb2
      clear C k0 k1
      gi_wp2_with fail
      refine ⟨trivial, (callsIn_wide.2 KC2).mono ?_⟩
      rintro e w3 ⟨gl, vs, rfl, hvl, hR3, hb3⟩
      have F3 := F2.below HN.out hb3
      have BC3 := HBC.out w3 gl vs _ hR3 hvl
      rw [hvl] at BC3
      have hlg := hR3.lt
      clear KC2 k2 F2 hR3
      gi_wp2_with fail
      refine ⟨trivial, (callsIn_wide.2 BC3).mono ?_⟩
      rintro e w4 ⟨hb4, fv, gf, lb, R, rfl, hit, hRR⟩
      obtain rfl := hit.v
      have F4 := F3.below HN.out hb4
      have hl4 := F4.b3.lt
      have HF4 := hid F4
      have HIT := hid hit
      clear BC3 F3 F4 hit hb2 hb3 hb4 hRR HKC HBC HMB
      gi_wp2
      refine wp_rangeIter2 rfl (by decide) (gf := gf) (lb := lb) rfl trivial HIT.out.eg (HIT.out.it _ w4 (Nat.le_refl _) fun _ _ => rfl) (fun _ => rfl)
        (MvI n w A m c dst) (MvX n w dst) (fun _ => False) (fun k h => h.elim) (fun k _ h => h) ?hlt ?hI ?hIx ?h0
        (fun x => { tmps := #[.agg #[.slice A m c], .int .i64 node, .int .i64 dst, .int .i64 at_, .pointer (some ⟨n, 0, none⟩), undef, .pointer (some ⟨n + 1, 0, none⟩), undef, .pointer (some ⟨n + 1 + 1, 0, none⟩), .pointer (some ⟨n + 1 + 1 + 1, 0, none⟩), .int .i64 0, .int .i64 x.1, undef, .agg #[.slice A m c], .int .i64 node, .int .i64 dst, .slice (some ⟨n + 1 + 1 + 1 + 1, 0, none⟩) 2 2, .int .i64 0, .int .i64 0, .bool false, undef, undef, .int .i64 node, .bool false, undef, .agg #[.slice A m c], .slice (some ⟨gl, 0, none⟩) m m, .int .i64 node, .func (.func gf) #[] lb, .int .i64 x.1, .int .i64 x.2, undef, undef, undef, undef, undef, undef, undef, undef, undef, undef, undef, undef, undef, undef, undef, undef, undef, undef, undef, undef, undef, undef, undef, undef, undef, undef, undef, undef, undef, undef, undef, undef, undef, undef, undef, undef, undef], defers := [] })
        ?assign ?body ?done ?stop
      case hlt => exact fun s M W k h hk => absurd hk (h.1 k)
      case hI => exact fun s M W W' h t => ⟨h.1, h.2.1.turn HN.out t (by omega), h.2.2⟩
      case hIx => exact fun c s M W W' h t => ⟨h.1, h.2.1, ⟨h.2.2.b2.turn t (by omega), h.2.2.b3.turn t (by omega), below_turn h.2.2.bl (Nat.le_of_eq HN.out.symm) t (fun k hk => by omega)⟩⟩
      case h0 => exact ⟨fun k h => h, HF4.out, fun x hx => by cases hx⟩
      case assign =>
        intro l x W K hK
        gi_wp2
        exact hK
      case body =>
        rintro l pre x M V ⟨hM, hF, hp⟩ hsp hlt
        have k1 := hF.b1.c
        have HF := hid hF
        have HP := hid hp
        clear hp hsp hF
        by_cases hq : x.1 = dst
        · have hqb : (x.1 == dst) = true := beq_iff_eq.2 hq
          have L2 := HF.out.b2
          have L3 := HF.out.b3
          obtain ⟨c2, f2⟩ := L2
          obtain ⟨c3, f3⟩ := L3
          have hfin : ∀ a, leftBy2 (MvI n w A m c dst) (MvX n w dst) (pre ++ [x]) M V .ret a ((V.setCell ⟨n + 1 + 1, 0, none⟩ (.slice none 0 0)).setCell ⟨n + 1 + 1 + 1, 0, none⟩ (.int .i64 80)) := fun a =>
            ⟨.of ((KeepsOthers.setCell _ _ _).trans (KeepsOthers.setCell _ _ _)), M, rfl, by rw [List.map_append]; exact List.mem_append_right _ (by simp [hq]), HF.out.res _ _⟩
          gi_wp2
          exact hfin _
        · have hqb : (x.1 == dst) = false := beq_eq_false_iff_ne.2 hq
          have hfin : ∀ a, leftBy2 (MvI n w A m c dst) (MvX n w dst) (pre ++ [x]) M V .normal a V := fun a => by
            refine ⟨.of (KeepsOthers.refl _), M, ⟨hM, HF.out, fun y hy => ?_⟩, Nat.le_refl _, fun _ _ _ => rfl, fun _ h => .inl h⟩
            rcases List.mem_append.1 hy with hy | hy
            · exact HP.out y hy
            · rw [List.mem_singleton] at hy
              subst hy
              exact hq
          gi_wp2
          exact hfin _
      case stop =>
        rintro c pre M V hSp ⟨rfl, hin, hRes⟩ hD
        have hDl := lt_of_block hD
        have hino : dst ∈ ordL (kidF L m) node := by
          rw [← HORD.out]
          exact (hSp.sublist.map _).subset hin
        have hZ1 := HZ.out
        rw [if_pos hino] at hZ1
        subst hZ1
        gi_wp2
        refine ⟨by simp, .inl ⟨_, _, rfl, run_takeDeferred hD, ?_⟩⟩
        have R2 := hid (hRes.put HN.out (D := w4.heap.size) (by omega) (.deferred none))
        clear hD hRes
        generalize V.putObj w4.heap.size (.deferred none) = E at *
        obtain ⟨c9, _⟩ := R2.out.b2
        obtain ⟨c8, _⟩ := R2.out.b3
        exact ⟨.tuple #[.agg #[.slice none 0 0], .int .i64 80], by simp [results, Tryd.results20, go_sem, *], none, 0, rfl, SpecO.nil, by rw [HN.out]; exact R2.out.bl⟩
      case done =>
        rintro xs' M V rfl ⟨hM, hF, hp⟩ hD
        have hno : dst ∉ ordL (kidF L m) node := by
          rw [← HORD.out]
          intro h
          obtain ⟨x, hx, e⟩ := List.mem_map.1 h
          exact hp x hx e
        have hZ1 := HZ.out
        rw [if_neg hno] at hZ1
        have HNO := hid hno
        have HZ1 := hid hZ1
        rename_i hKK
        simp only [Exit.inBlock, Exit.then]
        refine hKK _ _ (wpIn_wide.2 ?_)
        clear hKK hp hno hZ1 HZ
        have hbV := hF.bl
        have hsV := hbV.size
        have hAV := HA.out.below (hbV.mono (by have := HN.out; omega))
        have TK := taken_any L HO.out A c node V hAV (by omega) (by have := HM.out; omega) (HTO.out.kt.lens (by have := HM.out; omega) (kidF_out L))
        unfold TakP at TK
        rw [HM.out] at TK
        have e0 := hF.b0.c
        have HF := hid hF
        have HD := hid hD
        have hDl := lt_of_block hD
        clear hF hD hbV hAV
        go_upto_region 10 with fail
        go_wp2_with fail
        with_reducible refine TK.mono ?_
        rintro e w5 ⟨g2, us, rfl, hul, hR5, hb5⟩
        have F5 := HF.out.below HN.out hb5
        have c1 := F5.b1.c
        obtain ⟨v, hv⟩ : ∃ v, us[dst.toNat]? = some v := ⟨_, List.getElem?_eq_getElem (by omega)⟩
        have cg := hR5.hd.cell hv
        have lg := hR5.lt
        have how := hR5.ow _ _ hv
        obtain ⟨Av, cv, rfl⟩ := own_shape how
        obtain ⟨KX, hKX⟩ : ∃ KX, takF L node dst.toNat = KX := ⟨_, rfl⟩
        have HKX := hid hKX
        rw [hKX] at cg how hv
        have hix : (dst.toNat : Int) = dst := by omega
        have hxm : dst.toNat < m := by omega
        have hD5 := (hb5.block _ hDl).trans HD.out
        have HD5 := hid hD5
        have HF5 := hid F5
        have HR5 := hid hR5
        have HOW := hid how
        have HV := hid hv
        have hs5 := hb5.size
        have HB5 := hid hb5
        clear TK e0 hR5 hv how hKX F5 hD5 hb5
        have hbad : (at_ < 0 ∨ (KX.length : Int) < at_) → ∀ r, r = (([], 2) : List Nd × Int) → Z = r := fun h r hr => by
          have := HZ1.out
          rw [HKX.out, if_pos h] at this
          rw [← this, hr]
        by_cases ha : at_ < 0
        · have hZ2 := hbad (.inl ha) _ rfl
          subst hZ2
          have hab : decide (at_ < 0) = true := decide_eq_true ha
          obtain ⟨c2, f2⟩ := HF5.out.b2
          obtain ⟨c3, f3⟩ := HF5.out.b3
          have l2 := HF5.out.b2.lt
          have l3 := HF5.out.b3.lt
          have R9 := hid ((HF5.out.res (.slice none 0 0) 2).put HN.out (D := w4.heap.size) (by omega) (.deferred none))
          go_wp2
          refine ⟨by simp, .inl ⟨_, _, rfl, run_takeDeferred (w := (w5.setCell ⟨n + 1 + 1, 0, none⟩ (.slice none 0 0)).setCell ⟨n + 1 + 1 + 1, 0, none⟩ (.int .i64 2)) (ds := []) ?_, ?_⟩⟩
          · rw [Below.heap_setCell _ _ _ _ (by show w4.heap.size ≠ n + 1 + 1 + 1; omega), Below.heap_setCell _ _ _ _ (by show w4.heap.size ≠ n + 1 + 1; omega)]
            exact HD5.out
          · generalize ((w5.setCell ⟨n + 1 + 1, 0, none⟩ (.slice none 0 0)).setCell ⟨n + 1 + 1 + 1, 0, none⟩ (.int .i64 2)).putObj w4.heap.size (.deferred none) = E at *
            obtain ⟨c9, _⟩ := R9.out.b2
            obtain ⟨c8, _⟩ := R9.out.b3
            exact ⟨.tuple #[.agg #[.slice none 0 0], .int .i64 2], by simp [results, Tryd.results20, go_sem, *], none, 0, rfl, SpecO.nil, by rw [HN.out]; exact R9.out.bl⟩
        by_cases ha2 : (KX.length : Int) < at_
        · have hZ2 := hbad (.inr ha2) _ rfl
          subst hZ2
          have hab : decide (at_ < 0) = false := decide_eq_false ha
          have hab2 : decide ((KX.length : Int) < at_) = true := decide_eq_true ha2
          obtain ⟨c2, f2⟩ := HF5.out.b2
          obtain ⟨c3, f3⟩ := HF5.out.b3
          have l2 := HF5.out.b2.lt
          have l3 := HF5.out.b3.lt
          have R9 := hid ((HF5.out.res (.slice none 0 0) 2).put HN.out (D := w4.heap.size) (by omega) (.deferred none))
          go_wp2
          refine ⟨by simp, .inl ⟨_, _, rfl, run_takeDeferred (w := (w5.setCell ⟨n + 1 + 1, 0, none⟩ (.slice none 0 0)).setCell ⟨n + 1 + 1 + 1, 0, none⟩ (.int .i64 2)) (ds := []) ?_, ?_⟩⟩
          · rw [Below.heap_setCell _ _ _ _ (by show w4.heap.size ≠ n + 1 + 1 + 1; omega), Below.heap_setCell _ _ _ _ (by show w4.heap.size ≠ n + 1 + 1; omega)]
            exact HD5.out
          · generalize ((w5.setCell ⟨n + 1 + 1, 0, none⟩ (.slice none 0 0)).setCell ⟨n + 1 + 1 + 1, 0, none⟩ (.int .i64 2)).putObj w4.heap.size (.deferred none) = E at *
            obtain ⟨c9, _⟩ := R9.out.b2
            obtain ⟨c8, _⟩ := R9.out.b3
            exact ⟨.tuple #[.agg #[.slice none 0 0], .int .i64 2], by simp [results, Tryd.results20, go_sem, *], none, 0, rfl, SpecO.nil, by rw [HN.out]; exact R9.out.bl⟩
        have hab : decide (at_ < 0) = false := decide_eq_false ha
        have hab2 : decide ((KX.length : Int) < at_) = false := decide_eq_false ha2
        have hZ2 := HZ1.out
        rw [HKX.out, if_neg (by omega)] at hZ2
        have HZ2 := hid hZ2
        have hat : ((at_.toNat : Nat) : Int) = at_ := by omega
        obtain ⟨YL, hYL⟩ : ∃ YL, KX.take at_.toNat ++ node :: KX.drop at_.toNat = YL := ⟨_, rfl⟩
        have HYL := hid hYL
        obtain ⟨row, hrow⟩ : ∃ row, (Value.slice Av KX.length cv).ownBlock = row := ⟨_, rfl⟩
        have hrl : ∀ k, row = some k → k < w5.heap.size := fun k e => (HOW.out.lt _ (hrow.trans e)).2
        have hrg : ∀ k, row = some k → V.heap.size ≤ k := fun k e => own_ge HOW.out k (hrow.trans e)
        have hKl := (HTO.out.tak node).lens (by have := HM.out; omega) (takF_out L node) dst.toNat
        rw [HKX.out] at hKl
        have HCI : Hid (∀ (w8 : World) (vb : Nat), w8.ownsRow V.heap.size 3 1 (.slice Av KX.length cv) KX.length (ints KX) → w8.heap[vb]? = some (.cells #[.int .i64 node] 3 (0, 0)) → w5.heap.size ≤ vb → w5.heap.size ≤ w8.heap.size → Calls Tryd.prog 54 #[.slice Av KX.length cv, .int .i64 at_, .slice (some ⟨vb, 0, none⟩) 1 1] w8 (InsP w8 V.heap.size (.slice Av KX.length cv) YL)) := hid fun w8 vb h1 h2 h3 h4 => by
          have CI := Insert_any _ V.heap.size KX at_.toNat node vb w8 h1 (by omega) h2 (fun e => by have := hrl vb (hrow.symm.trans e); omega) hKl (by omega)
          rw [hat, hYL] at CI
          exact CI
        have hb1 := HF5.out.b1
        have hdc := HR5.out.hd
        have hne2 : ∀ k, row = some k → k ≠ g2 := fun k e e2 => HR5.out.ne _ _ g2 HV.out (hrow.trans (e.trans (congrArg some e2))) rfl
        have hge2 := HR5.out.ge
        have HE1 : Hid (∀ w8, w5.grownBy w8 row → w8.cell? ⟨n + 1, 0, none⟩ = some (.int .i64 dst)) := hid fun w8 h => (hb1.grown h (fun k e => by have := hrg k e; omega)).c
        have HE2 : Hid (∀ w8, w5.grownBy w8 row → RowsHd w8 g2 us) := hid fun w8 h => hdc.same (h.block g2 HR5.out.lt (fun e => hne2 g2 e.symm rfl))
        clear hYL hbad hZ2
        go_upto_region 13 with fail
        refine region_pivot 10 9 [[], [], [], [], [2, 3], [4], [], [], [7], [5, 6, 8]] (fun w w' => w.grownBy w' row) (fun w => w.ownsRow V.heap.size 3 1 (.slice Av KX.length cv) KX.length (ints KX))
          (fun v w => w.ownsRow V.heap.size 3 1 v YL.length (ints YL) ∧ ∀ b, v.ownBlock = some b → row = some b ∨ w5.heap.size ≤ b)
          (pick [IsV (.slice (some ⟨g2, 0, none⟩) m m), IsV (.int .i64 dst), IsV (.slice (some ⟨g2, 0, none⟩) m m), IsV (.int .i64 dst), IsV (.pointer (some ⟨g2, dst.toNat, none⟩)), IsV (.slice Av KX.length cv), IsV (.int .i64 at_), IsV (.int .i64 node), BlkV w5.heap.size #[.int .i64 node] 3 1, fun _ _ => True])
          mixed (by kernel_rfl) (by omega) (fun a b c h1 h2 => grown_trans h1 h2) (below_grown (Below.refl _ _).drew row) ?_ (own_below' HOW.out (Below.refl _ _).drew) ?_ ?_
        · intro i v w1 w2 h hE
          unfold pick at h ⊢
          by_cases e8 : i = 8
          · subst e8
            obtain ⟨gb, e, hg, hh⟩ := h
            exact ⟨gb, e, hg, (hE.block gb (lt_of_block hh) (fun e => by have := hrl gb e.symm; omega)).trans hh⟩
          · have hi : i = 0 ∨ i = 1 ∨ i = 2 ∨ i = 3 ∨ i = 4 ∨ i = 5 ∨ i = 6 ∨ i = 7 ∨ i = 9 ∨ 9 < i := by omega
            rcases hi with rfl | rfl | rfl | rfl | rfl | rfl | rfl | rfl | rfl | hi
            iterate 9 exact h
            rw [List.getD_eq_getElem?_getD, List.getElem?_eq_none (by simp; omega)]
            trivial
        · simp only [List.take_succ_cons, List.take_zero, PivObs, DepAll, dsOf, List.map_cons, List.map_nil]
          refine ⟨?_, ?_, ?_, ?_, ?_, ?_, ?_, ?_, ?_, ?_, trivial⟩
          all_goals intro w1 hw1 hIw
          all_goals have gr := below_grown (Below.refl w1.heap.size w1) row
          all_goals have k1 := HE1.out w1 hw1
          all_goals have k2 := (HE2.out w1 hw1).cell HV.out
          case' refine_5 => intro v h v' h'
          case' refine_6 => intro v h
          case' refine_9 => intro v h
          case' refine_10 => intro v h v' h' v'' h''
          all_goals try simp only [pick, IsV, List.getD_cons_succ, List.getD_cons_zero] at h
          all_goals try simp only [pick, IsV, List.getD_cons_succ, List.getD_cons_zero] at h'
          case refine_1 => simp [go_sem, uponR, pick, IsV, gr]
          case refine_2 => simp [go_sem, uponR, pick, IsV, gr, k1]
          case refine_3 => simp [go_sem, uponR, pick, IsV, gr]
          case refine_4 => simp [go_sem, uponR, pick, IsV, gr, k1]
          case refine_5 => subst h h'; simp [go_sem, uponR, pick, IsV, gr, p1, p2]
          case refine_6 => subst h; simp [go_sem, uponR, pick, IsV, gr, k2]
          case refine_7 => simp [go_sem, uponR, pick, IsV, gr]
          case refine_8 => simp [go_sem, uponR, pick, IsV, gr]
          case refine_9 =>
            subst h
            have hab9 : Below w1.heap.size w1 (w1.alloc (.cells #[.int .i64 node] 3)) := (Below.refl _ _).alloc (Nat.le_refl _) _
            have hB : BlkV w5.heap.size #[.int .i64 node] 3 1 (.slice (some ⟨w1.heap.size, 0, none⟩) 1 1) (w1.alloc (.cells #[.int .i64 node] 3)) := ⟨_, rfl, hw1.size, World.alloc_heap_new _ _⟩
            simp [go_sem, uponR, pick]
            exact ⟨hB, below_grown hab9 row, fun h => own_below' h hab9, fun u h1 h2 => ⟨own_below' h1 hab9, h2⟩⟩
          case refine_10 =>
            simp only [pick, List.getD_cons_succ, List.getD_cons_zero] at h''
            obtain ⟨gb, rfl, hgb, hh⟩ := h''
            subst h h'
            simp [go_sem, uponR, pick]
            refine (HCI.out w1 gb (hIw (by first | trivial | rfl)) hh hgb hw1.size).mono ?_
            rintro e w2 ⟨v', rfl, ho', hk', hg'⟩
            rw [hrow] at hk' hg'
            exact ⟨v', rfl, ⟨ho', fun b hb => (hk' b hb).imp id (fun h => by have := hw1.size; omega)⟩, hg'⟩
        intro w10 hg'
        simp only [show List.range 10 = [0, 1, 2, 3, 4, 5, 6, 7, 8, 9] from rfl, DepAll, dsOf, List.map_cons, List.map_nil, List.take_succ_cons, List.take_zero]
        rintro _ ⟨rfl, _⟩ _ ⟨rfl, _⟩ _ ⟨rfl, _⟩ _ ⟨rfl, _⟩ _ ⟨rfl, _⟩ _ ⟨rfl, _⟩ _ ⟨rfl, _⟩ _ ⟨rfl, _⟩ v8 _ v9 ⟨_, hv9⟩
        obtain ⟨ho', hk'⟩ := hv9 (by first | trivial | rfl)
        obtain ⟨A', c', rfl⟩ := own_shape ho'
        simp only [List.getD_cons_succ, List.getD_cons_zero, List.drop_succ_cons, List.drop_zero]
        simp only [Act.put, Option.getD_some, List.setIfInBounds_toArray, List.set_cons_zero, List.set_cons_succ]
        have hdX := HE2.out w10 hg'
        have dX := hdX.cell HV.out
        have fX := hdX.froz dst.toNat
        have lX := hdX.lt
        go_upto_region 14 with fail
        focus
          have hP := HR5.out.put dst.toNat _ (.slice A' YL.length c') YL HV.out (by rw [hrow]; exact hg') ho' (by rw [hrow]; exact hk')
          have hKe : (fun j => if j = dst.toNat then YL else takF L node j) = insK (takF L node) dst.toNat at_.toNat node := by
            funext j
            unfold insK
            by_cases e : j = dst.toNat
            · rw [if_pos e, if_pos e, e, HKX.out, HYL.out]
            · rw [if_neg e, if_neg e]
          rw [hKe] at hP
          have g2ge := HR5.out.ge
          have tX : Turn (fun k => V.heap.size ≤ k) w5 (w10.setCell ⟨g2, dst.toNat, none⟩ (.slice A' YL.length c')) :=
            (Turn.grown hg' hrg).trans (Turn.set (C := fun k => V.heap.size ≤ k) (p := ⟨g2, dst.toNat, none⟩) g2ge _)
          have FX := HF5.out.turnC HN.out tX (fun k hk => by omega)
          have hDX := (tX.block w4.heap.size (by omega) (by omega)).trans HD5.out
          have hAX := HA.out.below (FX.bl.mono (by have := HN.out; omega))
          have hsX := tX.size
          have hTX : Tabs (w10.setCell ⟨g2, dst.toNat, none⟩ (.slice A' YL.length c')) := tabs_on HT.out (by rw [HN.out]; exact FX.bl)
          have HP := hid hP
          have HFX := hid FX
          have HDX := hid hDX
          have HAX := hid hAX
          have HTX := hid hTX
          clear hP hKe tX FX hDX hAX hTX ho' hk' hg' dX fX lX hdX hv9
          generalize w10.setCell ⟨g2, dst.toNat, none⟩ (.slice A' YL.length c') = X at *
          have hkm : KTree (insK (takF L node) dst.toNat at_.toNat node) L.length (64 + 64 + 1) _ _ := HTO.out.kt.mov (by decide) o1 (by rw [HM.out]; exact o2) p1 (by rw [HM.out]; exact p2) (by rw [HM.out]; exact HNO.out)
          have FC := form_tree L HO.out A c m 0 X HAX.out (by have := HN.out; omega) HP.out (by rw [List.length_set, HM.out]; exact hul) (by have := HM.out; omega) (insK_out (takF_out L node) (by have := HM.out; omega)) hkm (by decide) (Int.le_refl 0) (by have := HM.out; omega) HTO.out.wl
          have hRok : ∀ x ∈ movR L node dst at_, x.ok := formL_ok HO.out (hkm.lens (by have := HM.out; omega) (insK_out (takF_out L node) (by have := HM.out; omega)))
          have TC := fun (w4 : World) (b0 : Nat) (A4 : Option Addr) (c4 : Nat) (hS : SpecO b0 w4 A4 c4 (movR L node dst at_)) (hb : Below X.heap.size X w4) =>
            told_any (movR L node dst at_) hRok b0 A4 c4 w4 (tabs_on HTX.out hb) hS
          unfold FormP at FC
          have hRR : formL L (insK (takF L node) dst.toNat at_.toNat node) (ordL (insK (takF L node) dst.toNat at_.toNat node) 0) = movR L node dst at_ := rfl
          rw [hRR] at FC
          obtain ⟨R, hR⟩ : ∃ R, movR L node dst at_ = R := ⟨_, rfl⟩
          have hZ3 := HZ2.out
          rw [hR] at FC TC hZ3
          rw [HM.out] at FC
          obtain ⟨RT, hRT⟩ : ∃ RT, toldL R = RT := ⟨_, rfl⟩
          obtain ⟨RZ, hRZ⟩ : ∃ RZ, chkC R = RZ := ⟨_, rfl⟩
          rw [hRT, hRZ] at TC hZ3
          subst hZ3
          have HTC := hid TC
          have e0 := HFX.out.b0.c
          clear TC hRok hkm hRR hR hRT hRZ HZ2
          go_wp2_with fail
          with_reducible refine FC.mono ?_
          rintro e w11 ⟨A4, c4, rfl, hS4, hb11⟩
          have TC := HTC.out w11 X.heap.size A4 c4 hS4 hb11
          have F11 := HFX.out.below HN.out hb11
          clear FC hS4 e0
          go_wp2_with fail
          with_reducible refine TC.mono ?_
          rintro e w12 ⟨A5, c5, rfl, hS5, hb12⟩
          have F12 := F11.below HN.out hb12
          have hsW1 := hb11.size
          have hsW2 := hb12.size
          have hD12 := ((hb11.trans (hb12.mono hsW1)).block w4.heap.size (by omega)).trans HDX.out
          have R12 := hid ((F12.res (.slice A5 RT.length c5) RZ).put HN.out (D := w4.heap.size) (by omega) (.deferred none))
          have tE : Turn (fun k => k ≤ w4.heap.size) w12 (((w12.setCell ⟨n + 1 + 1, 0, none⟩ (.slice A5 RT.length c5)).setCell ⟨n + 1 + 1 + 1, 0, none⟩ (.int .i64 RZ)).putObj w4.heap.size (.deferred none)) :=
            ((Turn.set (C := fun k => k ≤ w4.heap.size) (p := ⟨n + 1 + 1, 0, none⟩) (by show n + 1 + 1 ≤ w4.heap.size; omega) _).trans (Turn.set (C := fun k => k ≤ w4.heap.size) (p := ⟨n + 1 + 1 + 1, 0, none⟩) (by show n + 1 + 1 + 1 ≤ w4.heap.size; omega) _)).trans (Turn.put (C := fun k => k ≤ w4.heap.size) (l := w4.heap.size) (Nat.le_refl _) _)
          have SE := hid ((hS5.turn tE (fun k hk => by omega)).mono (show n ≤ X.heap.size by omega))
          obtain ⟨d2, e2⟩ := F12.b2
          obtain ⟨d3, e3⟩ := F12.b3
          have l2 := F12.b2.lt
          have l3 := F12.b3.lt
          have HD12 := hid hD12
          clear TC hS5 F11 F12 hD12 hb11 hb12 tE
          go_wp2
          refine ⟨by simp, .inl ⟨_, _, rfl, run_takeDeferred (w := (w12.setCell ⟨n + 1 + 1, 0, none⟩ (.slice A5 RT.length c5)).setCell ⟨n + 1 + 1 + 1, 0, none⟩ (.int .i64 RZ)) (ds := []) ?_, ?_⟩⟩
          · rw [Below.heap_setCell _ _ _ _ (by show w4.heap.size ≠ n + 1 + 1 + 1; omega), Below.heap_setCell _ _ _ _ (by show w4.heap.size ≠ n + 1 + 1; omega)]
            exact HD12.out
          · generalize ((w12.setCell ⟨n + 1 + 1, 0, none⟩ (.slice A5 RT.length c5)).setCell ⟨n + 1 + 1 + 1, 0, none⟩ (.int .i64 RZ)).putObj w4.heap.size (.deferred none) = E at *
            obtain ⟨c9, _⟩ := R12.out.b2
            obtain ⟨c8, _⟩ := R12.out.b3
            exact ⟨.tuple #[.agg #[.slice A5 RT.length c5], .int .i64 RZ], by simp [results, Tryd.results20, go_sem, *], A5, c5, rfl, by rw [HN.out]; exact SE.out, by rw [HN.out]; exact R12.out.bl⟩
      
  · rw [if_pos he]
    obtain ⟨m, hm⟩ : ∃ m, L.length = m := ⟨_, rfl⟩
    rw [hm] at C k0 HW HMB ⊢
    have he0 : (E == 0) = false := beq_eq_false_iff_ne.2 he
    clear h0 hE hm hA hA1 hok hT hTW hW hl hn hMB
    go_enter Tryd.func20, Tryd.ntmps20
    go_upto_region 1 with fail
    rw [HW.out, HN.out]
    go_wp2_with fail
    with_reducible refine C.mono ?_
    rintro e w2 ⟨rfl, hb2⟩
    have F2 := HMB.out.below HN.out hb2
    have R2 := hid (F2.res (.slice none 0 0) E)
    obtain ⟨c2, f2⟩ := F2.b2
    obtain ⟨c3, f3⟩ := F2.b3
    have l2 := F2.b2.lt
    have l3 := F2.b3.lt
    clear C k0 k1 hb2 F2
    go_wp2
    generalize (w2.setCell ⟨n + 1 + 1, 0, none⟩ (.slice none 0 0)).setCell ⟨n + 1 + 1 + 1, 0, none⟩ (.int .i64 E) = E9 at *
    obtain ⟨c9, _⟩ := R2.out.b2
    obtain ⟨c8, _⟩ := R2.out.b3
    refine bodyPost_ret (v := .tuple #[.agg #[.slice none 0 0], .int .i64 E]) (by simp [results, Tryd.results20, go_sem, *]) rfl ⟨none, 0, rfl, SpecO.nil, by rw [HN.out]; exact R2.out.bl⟩
end Go.Proofs.YtnkojoajcdhngaaDoor
