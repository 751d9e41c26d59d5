/- Layer 8: Put. -/
import Derived.Test.YtnkojoajcdhngaaDoorTr30
namespace Go.Proofs.YtnkojoajcdhngaaDoor
set_option linter.unusedVariables false
set_option linter.unusedSimpArgs false
set_option maxRecDepth 100000
open Go.RowKit Go.Shelf Go.Lib
attribute [local go_sem] Oper.semAt_some
set_option maxRecDepth 100000
set_option maxHeartbeats 16000000

def putK (L M : List Nd) (node at_ : Int) : Nat → List Int := insK (catK L.length (kidF L L.length) (kidF M M.length)) node.toNat at_.toNat L.length
def putR (L M : List Nd) (node at_ : Int) : List Nd := formL (L ++ M) (putK L M node at_) (ordL (putK L M node at_) 0)
def putE (L M : List Nd) (node at_ : Int) : List Nd × Int := if askC L [node] ≠ 0 then ([], askC L [node]) else if at_ < 0 ∨ ((kidF L L.length node.toNat).length : Int) < at_ then ([], 2) else if chkC M ≠ 0 then ([], chkC M) else if 1024 < L.length + M.length then ([], 4) else (toldL (putR L M node at_), chkC (putR L M node at_))
/-- The three boxes. -/
structure PBx (n : Nat) (w : World) (A : Option Addr) (m c : Nat) (A2 : Option Addr) (m2 c2 : Nat) (W : World) : Prop where
  b0 : Box1 W n (.slice A m c)
  b1 : Box1 W (n + 1) (.slice A2 m2 c2)
  b2 : Box1 W (n + 1 + 1) (.slice none 0 0)
  bl : Below n w W
theorem PBx.below {n : Nat} {w : World} {A : Option Addr} {m c : Nat} {A2 : Option Addr} {m2 c2 : Nat} {W W' : World} (h : PBx n w A m c A2 m2 c2 W) (hn : w.heap.size = n) (hb : Below W.heap.size W W') : PBx n w A m c A2 m2 c2 W' := by
  have hs := h.bl.size
  exact ⟨h.b0.below hb h.b0.lt, h.b1.below hb h.b1.lt, h.b2.below hb h.b2.lt, h.bl.trans (hb.mono (by omega))⟩
theorem PBx.turnC {C : Nat → Prop} {n : Nat} {w : World} {A : Option Addr} {m c : Nat} {A2 : Option Addr} {m2 c2 : Nat} {W W' : World} (h : PBx n w A m c A2 m2 c2 W) (hn : w.heap.size = n) (t : Turn C W W') (hC : ∀ k, C k → n + 2 < k) : PBx n w A m c A2 m2 c2 W' :=
  ⟨h.b0.turn t (fun h => by have := hC _ h; omega), h.b1.turn t (fun h => by have := hC _ h; omega), h.b2.turn t (fun h => by have := hC _ h; omega), below_turn h.bl (Nat.le_of_eq hn.symm) t (fun k hk hc => by have := hC _ hc; omega)⟩
theorem PBx.res {n : Nat} {w : World} {A : Option Addr} {m c : Nat} {A2 : Option Addr} {m2 c2 : Nat} {W : World} (h : PBx n w A m c A2 m2 c2 W) (v : Value) : Box1 (W.setCell ⟨n + 1 + 1, 0, none⟩ v) (n + 1 + 1) v ∧ Below n w (W.setCell ⟨n + 1 + 1, 0, none⟩ v) :=
  ⟨h.b2.set v, h.bl.setCell (by show n ≤ n + 1 + 1; omega) v⟩
theorem set_step {α : Type} (f : α → α) (X : List α) (j : Nat) (h : j < X.length) : ((X.take j).map f ++ X.drop j).set j (f X[j]) = (X.take (j + 1)).map f ++ X.drop (j + 1) := by
  have hl : ((X.take j).map f).length = j := by rw [List.length_map, List.length_take]; omega
  rw [List.set_append, if_neg (by omega), hl, Nat.sub_self, List.drop_eq_getElem_cons h, List.set_cons_zero, List.take_succ_eq_append_getElem h, List.map_append, List.append_assoc]
  rfl
theorem turn_grown {v : Value} {w w' : World} (t : Turn (fun k => v.ownBlock = some k) w w') : w.grownBy w' v.ownBlock := ⟨t.os, t.tape, t.output, t.size, fun k hk hne => t.block k hk (fun hc => hne hc.symm)⟩
theorem Put_any {B : Nat} (L M : List Nd) (hok : ∀ n ∈ L, n.ok) (hokM : ∀ n ∈ M, n.ok) (A A2 : Option Addr) (c c2 : Nat) (node at_ : Int) (w : World) (hT : Tabs w) (hA : NdsAt B w A L) (hA2 : NdsAt B w A2 M) (hB : B ≤ w.heap.size) (hl : L.length ≤ 9000000000000) (hl2 : M.length ≤ 9000000000000) :
    Calls Tryd.prog 14 #[.agg #[.slice A L.length c], .int .i64 node, .int .i64 at_, .agg #[.slice A2 M.length c2]] w (SpcP w (putE L M node at_).1 (putE L M node at_).2) := by
  obtain ⟨n, hn⟩ : ∃ n, w.heap.size = n := ⟨_, rfl⟩
  obtain ⟨W, hW⟩ : ∃ W, allocs w [Obj.cells #[.slice A L.length c] 25 (0, 0), Obj.cells #[.slice A2 M.length c2] 25 (0, 0), Obj.cells #[.slice none 0 0] 25 (0, 0)] = W := ⟨_, rfl⟩
  have hPB : PBx n w A L.length c A2 M.length c2 W := by
    rw [← hW, ← hn]
    have g := allocs_get [Obj.cells #[.slice A L.length c] 25 (0, 0), Obj.cells #[.slice A2 M.length c2] 25 (0, 0), Obj.cells #[.slice none 0 0] 25 (0, 0)] w
    exact ⟨Box1.of_heap (g 0 _ rfl), Box1.of_heap (g 1 _ rfl), Box1.of_heap (g 2 _ rfl), allocs_below _ _⟩
  have hs1 := hPB.bl.size
  have hl3 := hPB.b2.lt
  have hA1 := hA.below (hPB.bl.mono (by omega))
  have hTW : Tabs W := tabs_on hT (by rw [hn]; exact hPB.bl)
  have C := asked1 L hok A c node W hTW hA1 (by omega) (by omega)
  simp only [allocs] at hW
  have HW := hid hW
  have HPB := hid hPB
  have HN := hid hn
  have k0 := hPB.b0.c
  have h0 := @askC_zero L [node]
  unfold putE
  obtain ⟨E, hE⟩ : ∃ E, askC L [node] = E := ⟨_, rfl⟩
  rw [hE] at h0 C ⊢
  by_cases he : E = 0
  · subst he
    rw [if_neg (by decide)]
    obtain ⟨hc, ho⟩ := h0 rfl
    unfold chkB at hc
    obtain ⟨⟨U, D⟩, hUD⟩ : ∃ x, parE L = some x := Option.isSome_iff_exists.1 hc
    have hTO := parE_ok hUD
    simp only [List.any_cons, List.any_nil, Bool.or_false] at ho
    obtain ⟨o1, o2⟩ := outB_false ho
    have hnl : node.toNat < L.length := by omega
    obtain ⟨g, o, Aw, cw, Ak, ck, rfl, hg, _, _, q0, q1, q2, q3, q4, q5, q6, q7, q8, q9, q10, q11, q12, q13, q14, q15, q16, q17, q18⟩ := hA.nd hnl
    have hkn : (kidF L L.length node.toNat).length = (L[node.toNat]'hnl).kids.length := by rw [kidF_at hnl]
    obtain ⟨ln, hln⟩ : ∃ ln, (L[node.toNat]'hnl).kids.length = ln := ⟨_, rfl⟩
    rw [hln] at hkn q18
    have HQ18 := hid q18
    have hlnb : ln ≤ 2048 := by
      rw [← hkn]
      have := hTO.kt.kl hnl
      have := hTO.n2
      omega
    clear q0 q1 q2 q3 q4 q5 q6 q7 q8 q9 q10 q11 q12 q13 q14 q15 q16 q17 q18 hln
    have hix : (node.toNat : Int) = node := by omega
    have CT := fun (w2 : World) (hb : Below W.heap.size W w2) => TCheck_any M hokM A2 c2 w2 (tabs_on hTW hb) (hA2.below (hPB.bl.trans (hb.mono (by omega)) |>.mono (by omega))) (by have := hb.size; omega)
    have HCT := hid CT
    have HTO := hid hTO
    obtain ⟨m, hm⟩ : ∃ m, L.length = m := ⟨_, rfl⟩
    obtain ⟨m2, hm2⟩ : ∃ m2, M.length = m2 := ⟨_, rfl⟩
    have HM := hid hm
    have HM2 := hid hm2
    have HA := hid hA
    have HA2 := hid hA2
    have HO := hid hok
    have HOM := hid hokM
    have HT := hid hT
    have hn1 := hTO.n1
    have hn2 := hTO.n2
    obtain ⟨Z, hZ⟩ : ∃ Z, (if at_ < 0 ∨ ((kidF L L.length node.toNat).length : Int) < at_ then (([], 2) : List Nd × Int) else if chkC M ≠ 0 then ([], chkC M) else if 1024 < L.length + M.length then ([], 4) else (toldL (putR L M node at_), chkC (putR L M node at_))) = Z := ⟨_, rfl⟩
    rw [hZ]
    rw [hkn] at hZ
    have HZ := hid hZ
    have HKN := hid hkn
    rw [hm] at C HW k0 HPB hn1 hn2 o2 hnl HKN ⊢
    rw [hm2] at HW HPB HCT ⊢
    clear hc ho h0 hE hUD hA hA1 hA2 hok hokM hT hTW hW hl hl2 CT hTO hn hm hm2 hPB hZ hkn
    go_enter Tryd.func14, Tryd.ntmps14
    go_upto_region 1 with fail
    rw [HW.out, HN.out]
    go_wp2_with fail
    with_reducible refine C.mono ?_
    rintro e w2 ⟨rfl, hb2⟩
    have F2 := HPB.out.below HN.out hb2
    have e0 := F2.b0.c
    have e1 := F2.b1.c
    have e18 : w2.cell? ⟨g, o + node.toNat * 19 + 18, none⟩ = some (.slice Ak ln ck) := by
      rw [F2.bl.cell (p := ⟨g, o + node.toNat * 19 + 18, none⟩) (by show g < n; have := HN.out; omega)]
      exact HQ18.out
    have hgl2 : g < w2.heap.size := by have := F2.bl.size; have := HN.out; omega
    have HF2 := hid F2
    have HB2 := hid hb2
    clear C k0 F2 hb2
    by_cases ha : at_ < 0
    · have hZ2 := HZ.out
      rw [if_pos (.inl ha)] at hZ2
      subst hZ2
      have hab : decide (at_ < 0) = true := decide_eq_true ha
      obtain ⟨d2, f2⟩ := HF2.out.b2
      have l2 := HF2.out.b2.lt
      have R2 := hid (HF2.out.res (.slice none 0 0))
      clear e18 e0 e1
      go_wp2
      generalize w2.setCell ⟨n + 1 + 1, 0, none⟩ (.slice none 0 0) = E9 at *
      obtain ⟨c9, _⟩ := R2.out.1
      refine bodyPost_ret (v := .tuple #[.agg #[.slice none 0 0], .int .i64 2]) (by simp [results, Tryd.results14, go_sem, *]) rfl ⟨none, 0, rfl, SpecO.nil, by rw [HN.out]; exact R2.out.2⟩
    have hab : decide (at_ < 0) = false := decide_eq_false ha
    by_cases ha2 : (ln : Int) < at_
    · have hZ2 := HZ.out
      rw [if_pos (.inr ha2)] at hZ2
      subst hZ2
      have hab2 : decide ((ln : Int) < at_) = true := decide_eq_true ha2
      obtain ⟨d2, f2⟩ := HF2.out.b2
      have l2 := HF2.out.b2.lt
      have R2 := hid (HF2.out.res (.slice none 0 0))
      go_wp2
      generalize w2.setCell ⟨n + 1 + 1, 0, none⟩ (.slice none 0 0) = E9 at *
      obtain ⟨c9, _⟩ := R2.out.1
      refine bodyPost_ret (v := .tuple #[.agg #[.slice none 0 0], .int .i64 2]) (by simp [results, Tryd.results14, go_sem, *]) rfl ⟨none, 0, rfl, SpecO.nil, by rw [HN.out]; exact R2.out.2⟩
    have hab2 : decide ((ln : Int) < at_) = false := decide_eq_false ha2
    have C3 := HCT.out w2 HB2.out
    obtain ⟨ez, hez⟩ : ∃ ez, chkC M = ez := ⟨_, rfl⟩
    rw [hez] at C3
    have HEZ := hid hez
    clear hez
    have hz1 := HZ.out
    rw [if_neg (by omega), HEZ.out] at hz1
    have HZ1 := hid hz1
    clear hz1 HZ HCT
    go_upto_region 6 with fail
    go_wp2_with fail
    with_reducible refine C3.mono ?_
    rintro e w3 ⟨rfl, hb3⟩
    have F3 := HF2.out.below HN.out hb3
    have HF3 := hid F3
    have f0 := F3.b0.c
    have f1 := F3.b1.c
    clear C3 e0 e1 e18 F3 hb3 HF2 HB2
    by_cases hez0 : ez = 0
    · subst hez0
      have hz1 := HZ1.out
      rw [if_neg (by decide), HM.out, HM2.out] at hz1
      have hcm : chkB M = true := by
        have h1 := HEZ.out
        unfold chkC at h1
        split at h1
        · rename_i h2
          exact h2
        · cases h1
      unfold chkB at hcm
      obtain ⟨⟨U2, D2⟩, hUD2⟩ : ∃ x, parE M = some x := Option.isSome_iff_exists.1 hcm
      have hTO2 := parE_ok hUD2
      have hm2a := hTO2.n1
      have hm2b := hTO2.n2
      rw [HM2.out] at hm2a hm2b
      have HTO2 := hid hTO2
      clear hcm hUD2 hTO2
      by_cases hmany : 1024 < m + m2
      · rw [if_pos hmany] at hz1
        subst hz1
        have hmi : (1024 : Int) < (m : Int) + (m2 : Int) := by omega
        have hmb : decide ((1024 : Int) < (m : Int) + (m2 : Int)) = true := decide_eq_true hmi
        obtain ⟨d2, f2⟩ := HF3.out.b2
        have l2 := HF3.out.b2.lt
        have R2 := hid (HF3.out.res (.slice none 0 0))
        go_wp2
        generalize w3.setCell ⟨n + 1 + 1, 0, none⟩ (.slice none 0 0) = E9 at *
        obtain ⟨c9, _⟩ := R2.out.1
        refine bodyPost_ret (v := .tuple #[.agg #[.slice none 0 0], .int .i64 4]) (by simp [results, Tryd.results14, go_sem, *]) rfl ⟨none, 0, rfl, SpecO.nil, by rw [HN.out]; exact R2.out.2⟩
      rw [if_neg hmany] at hz1
      have HZ2 := hid hz1
      have hsn : ¬ (1024 : Int) < (m : Int) + (m2 : Int) := by omega
      have hmb : decide ((1024 : Int) < (m : Int) + (m2 : Int)) = false := decide_eq_false hsn
      have hA3 := HA.out.below (HF3.out.bl.mono (by have := HN.out; omega))
      have hA23 := HA2.out.below (HF3.out.bl.mono (by have := HN.out; omega))
      have hs3 := HF3.out.bl.size
      have KC := kids_own L HO.out _ c w3 hA3 (by omega) (by have := HM.out; omega)
      have KC2 := fun (w4 : World) (hb : Below w3.heap.size w3 w4) => kids_own M HOM.out _ c2 w4 (hA23.below (hb.mono (by omega))) (by have := hb.size; omega) (by have := HM2.out; omega)
      unfold KidsO at KC KC2
      rw [HM.out] at KC
      rw [HM2.out] at KC2
      have HKC2 := hid KC2
      clear hz1 HZ1 hA3 hA23 KC2
      go_upto_region 12 with fail
      go_wp2_with fail
      with_reducible refine KC.mono ?_
      rintro e w4 ⟨gs, vs, rfl, hvl, hRs, hb4, hLO⟩
      have KC3 := HKC2.out w4 hb4
      have F4 := HF3.out.below HN.out hb4
      have e1 := F4.b1.c
      have HRs := hid hRs
      have HB4 := hid hb4
      have HLO := hid hLO
      have lgs := hRs.lt
      clear KC HKC2 F4 hRs hb4 hLO f0 f1
      go_upto_region 13 with fail
      go_wp2_with fail
      with_reducible refine KC3.mono ?_
      rintro e w5 ⟨gt, us, rfl, hul, hRt, hb5, _⟩
      have hgtb := hRt.ge
      have hs4 := HB4.out.size
      have hvs : ∀ (j : Nat) (v : Value) (k : Nat), vs[j]? = some v → v.ownBlock = some k → k < w4.heap.size := fun j v k hv hk => ((HRs.out.ow j v hv).lt k hk).2
      have HVS := hid hvs
      have hP0 : PuS w3 w4.heap.size gt m (kidF L m) (kidF M m2) vs us 0 (some ⟨gs, 0, none⟩) m w5 := by
        refine ⟨HB4.out.trans (hb5.mono hs4), fun j v hv => own_below' (HRs.out.ow j v hv) hb5, ?_, ?_, fun k hk => ?_⟩
        · have : (fun j => if j < 0 then (kidF M m2 j).map (· + (m : Int)) else kidF M m2 j) = kidF M m2 := by funext j; rw [if_neg (by omega)]
          rw [this]
          exact hRt
        · rw [List.take_zero, List.append_nil, Nat.add_zero]
          exact own_below' HLO.out hb5
        · injection hk with hk
          simp only at hk
          omega
      have HP0 := hid hP0
      clear KC3 hRt hb5 hvs hP0 e1
      go_wp2
      go_loopg [13, 60] m2 (fun gh v13 v60 wr => ∃ (i : Nat) (Al : Option Addr) (cl : Nat), v13 = .slice Al (m + i) cl ∧ v60 = .int .i64 (i : Int) ∧ i ≤ m2 ∧ m2 - i ≤ gh ∧ Hid (PuS w3 w4.heap.size gt m (kidF L m) (kidF M m2) vs us i Al cl wr))
      case atStart => exact ⟨0, _, m, rfl, rfl, by omega, by omega, HP0⟩
      case round =>
        obtain ⟨i, Al, cl, rfl, rfl, hi, hgh, HPr⟩ := hrel
        generalize wr = w0 at *
        have hs0 := HPr.out.bl.size
        by_cases hlt : i < m2
        · have hli : (i : Int) < (m2 : Int) := by omega
          obtain ⟨v, hv⟩ : ∃ v, us[i]? = some v := ⟨_, List.getElem?_eq_getElem (by omega)⟩
          have cg := HPr.out.rt.hd.cell hv
          have lg := HPr.out.rt.lt
          have how := HPr.out.rt.ow i v hv
          simp only [if_neg (Nat.lt_irrefl i)] at how
          obtain ⟨Av, cv, rfl⟩ := own_shape how
          have hkr := HTO2.out.kt.kr i (by have := HM2.out; omega)
          rw [HM2.out] at hkr
          obtain ⟨KX, hKX⟩ : ∃ KX, kidF M m2 i = KX := ⟨_, rfl⟩
          have hkl := HTO2.out.kt.kl (i := i) (by have := HM2.out; omega)
          rw [HM2.out] at hkl
          rw [hKX] at how cg hkr hkl hv
          have HKX := hid hKX
          have HV := hid hv
          have HKR := hid hkr
          have HI0 := hid (show w0.ownsRow w4.heap.size 3 1 (.slice Av KX.length cv) KX.length (ints ((KX.take 0).map (· + (m : Int)) ++ KX.drop 0)) from how)
          have HT0 := hid (Turn.refl (fun k => (Value.slice Av KX.length cv).ownBlock = some k) w0)
          clear hv how hKX hkr
          go_wp2
          go_loopg [66] KX.length (fun gh v66 w9 => ∃ j : Nat, v66 = .int .i64 (j : Int) ∧ j ≤ KX.length ∧ KX.length - j ≤ gh ∧ Hid (w9.ownsRow w4.heap.size 3 1 (.slice Av KX.length cv) KX.length (ints ((KX.take j).map (· + (m : Int)) ++ KX.drop j))) ∧ Hid (Turn (fun k => (Value.slice Av KX.length cv).ownBlock = some k) w0 w9))
          case atStart => exact ⟨0, rfl, by omega, by omega, HI0, HT0⟩
          case round =>
            obtain ⟨j, rfl, hj, hgh2, HIr, HTr⟩ := hrel
            by_cases hlt2 : j < KX.length
            · have hlj : (j : Int) < (KX.length : Int) := by omega
              obtain ⟨ga, rfl, hga, hgl⟩ := own_head HIr.out (by omega)
              have hlen : ((KX.take j).map (· + (m : Int)) ++ KX.drop j).length = KX.length := by rw [List.length_append, List.length_map, List.length_take, List.length_drop]; omega
              have hget : ((KX.take j).map (· + (m : Int)) ++ KX.drop j)[j]? = some KX[j] := by
                rw [List.getElem?_append_right (by rw [List.length_map, List.length_take]; omega), List.length_map, List.length_take, Nat.min_eq_left (by omega), Nat.sub_self, List.getElem?_drop, Nat.add_zero, List.getElem?_eq_getElem hlt2]
              have cA : wr.cell? ⟨ga, j, none⟩ = some (.int .i64 KX[j]) := by
                have := HIr.out.cells (g := ga) rfl j (.int .i64 KX[j]) (by rw [ints_get, hget]; rfl)
                by_cases h0 : j = 0
                · subst h0
                  simpa [Addr.add] using this
                · simpa [Addr.add, h0] using this
              have fA : wr.frozen? ⟨ga, j, none⟩ = false := by
                rcases HIr.out.2 with ⟨e, _⟩ | ⟨g2, cap, cur, e, _, hh, _⟩
                · cases e
                · injection e with e1
                  injection e1 with e1
                  injection e1 with e1
                  subst e1
                  exact blk_frozen hh j
              have hr := HKR.out KX[j] (List.getElem_mem hlt2)
              obtain ⟨k, hk⟩ : ∃ k, KX[j] = k := ⟨_, rfl⟩
              have hst := own_store HIr.out j (.int .i64 (k + (m : Int)))
              have hset := set_step (· + (m : Int)) KX j hlt2
              rw [ints_set, ← hk, hset] at hst
              rw [hk] at cA hr hst
              have HST := hid hst
              have HTT := hid (HTr.out.trans (Turn.set (C := fun k => (Value.slice (some ⟨ga, 0, none⟩) KX.length cv).ownBlock = some k) (p := ⟨ga, j, none⟩) rfl (.int .i64 (k + (m : Int)))))
              have hk0 := hr.1
              have hk1 := hr.2.1
              have hkb : k < 2000 := by omega
              clear hlen hget hr hst hset hk
              go_wp2
              go_roundg (KX.length - (j + 1))
              case measure => omega
              case rel => exact ⟨j + 1, by go_num, by omega, by omega, HST, HTT⟩
            · have q : ¬ (j : Int) < (KX.length : Int) := by omega
              have hjj : j = KX.length := by omega
              subst hjj
              have hIr := HIr.out
              rw [List.take_length, List.drop_length, List.append_nil] at hIr
              have hml : (KX.map (· + (m : Int))).length = KX.length := by rw [List.length_map]
              obtain ⟨bl2, rs2, rt2, lo2⟩ := HPr.out.row (v := .slice Av KX.length cv) hs4 HVS.out HV.out (turn_grown HTr.out) (by rw [HKX.out, hml]; exact hIr)
              have hsr := HTr.out.size
              have HBL2 := hid bl2
              have HRS2 := hid rs2
              have HRT2 := hid rt2
              have HLO2 := hid lo2
              have hmi : m + i ≤ 1000000 := by omega
              clear hIr hml bl2 rs2 rt2 lo2
              go_wp2_with (first | (at_builtin; refine append_row rfl (.tmp 77) (.tmp 79) rfl w3.heap.size (.slice Al (m + i) cl) (m + i) (vs ++ us.take i) (.slice Av KX.length cv) wr.heap.size rfl rfl (HLO2.out.alloc _) (by simp [go_sem]) rfl hmi ?_ ?_))
              · first | omega | (simp; omega)
              intro v' w' ho' hg' hk'
              obtain ⟨A', c', rfl⟩ := own_shape ho'
              have HST := hid (PuS.step HBL2.out HRS2.out HRT2.out HLO2.out HPr.out.lg HV.out hg' (by first | exact ho' | (rw [List.append_assoc]; exact ho')) (fun k hk => by
                rcases hk' k hk with h | h
                · exact .inl h
                · exact .inr (by first | exact h | (simp; omega))))
              clear ho' hg' hk'
              go_wp2
              go_roundg (m2 - (i + 1))
              case measure => omega
              case rel => exact ⟨i + 1, A', c', rfl, by go_num, by omega, by omega, HST⟩
        · have q : ¬ (i : Int) < (m2 : Int) := by omega
          have hii : i = us.length := by omega
          have hlo := HPr.out.lo
          obtain ⟨gL, rfl, hgL1, hgL2⟩ := own_head hlo (by omega)
          have hPE := HPr.out
          rw [hii] at hPE
          have hRw := hPE.fin hs4 hvl HVS.out HRs.out.ap
          have hFE := HF3.out.below HN.out hPE.bl
          have HRW := hid hRw
          have HFE := hid hFE
          have him : m + i = m + m2 := by omega
          rw [him]
          clear hlo hPE hRw hFE
          obtain ⟨v, hv⟩ : ∃ v, (vs ++ us)[node.toNat]? = some v := ⟨_, List.getElem?_eq_getElem (by rw [List.length_append]; omega)⟩
          have cg := HRW.out.hd.cell hv
          have how := HRW.out.ow _ _ hv
          have hck : catK m (kidF L m) (kidF M m2) node.toNat = kidF L m node.toNat := by
            unfold catK
            rw [if_pos hnl]
          rw [hck, HKN.out] at how
          obtain ⟨KX, hKX⟩ : ∃ KX, kidF L m node.toNat = KX := ⟨_, rfl⟩
          have hKl : KX.length = ln := by rw [← hKX]; exact HKN.out
          obtain ⟨Av, cv, rfl⟩ := own_shape how
          rw [hKX] at how hck
          have HCK := hid hck
          have HV := hid hv
          have HOW := hid how
          have HKL := hid hKl
          clear hv how hck hKX hKl
          have hat : ((at_.toNat : Nat) : Int) = at_ := by omega
          obtain ⟨w9, hw9⟩ : ∃ w9, w0.alloc (.cells #[.int .i64 (m : Int)] 3) = w9 := ⟨_, rfl⟩
          have hb9 : Below w0.heap.size w0 w9 := by
            rw [← hw9]
            exact (Below.refl _ _).alloc (Nat.le_refl _) _
          have h9v : w9.heap[w0.heap.size]? = some (.cells #[.int .i64 (m : Int)] 3 (0, 0)) := by
            rw [← hw9]
            exact World.alloc_heap_new _ _
          have how := HOW.out
          rw [← HKL.out] at how
          have how9 := own_below' how hb9
          have CI := Insert_any _ w3.heap.size KX at_.toNat (m : Int) w0.heap.size w9 how9 (by have := HKL.out; omega) h9v (fun e => by have := (how.lt _ e).2; omega) (by have := HKL.out; omega) (by have := hb9.size; omega)
          rw [hat, HKL.out] at CI
          unfold InsP at CI
          obtain ⟨YL, hYL⟩ : ∃ YL, KX.take at_.toNat ++ (m : Int) :: KX.drop at_.toNat = YL := ⟨_, rfl⟩
          rw [hYL] at CI
          have HYL := hid hYL
          have HCI := hid CI
          have HW9 := hid hw9
          have HB9 := hid hb9
          have s9 : w9.heap.size = w0.heap.size + 1 := by rw [← hw9]; simp
          have HS9 := hid s9
          have lgL := HRW.out.lt
          have e0 := HFE.out.b0.c
          have hlE := HFE.out.b2.lt
          have hl3 := HF3.out.b2.lt
          clear CI hw9 hb9 h9v how how9 hYL s9
          have hGX : ∀ w10, w9.grownBy w10 (Value.slice Av ln cv).ownBlock → w10.cell? ⟨gL, node.toNat, none⟩ = some (.slice Av ln cv) ∧ w10.frozen? ⟨gL, node.toNat, none⟩ = false ∧ gL < w10.heap.size ∧ w10.cell? ⟨n, 0, none⟩ = some (.slice (some ⟨g, o, none⟩) m c) ∧ ∀ u, (w10.setCell ⟨gL, node.toNat, none⟩ u).cell? ⟨n, 0, none⟩ = some (.slice (some ⟨g, o, none⟩) m c) := by
            intro w10 hg'
            have hne : some gL ≠ (Value.slice Av ln cv).ownBlock := fun e => HRW.out.ne _ _ gL HV.out e.symm rfl
            have hdX := (HRW.out.on HB9.out).hd.same (hg'.block gL (by have := HS9.out; omega) hne)
            have hB1 := (HFE.out.b0.below HB9.out HFE.out.b0.lt).grown hg' (fun k hk => by have := own_ge HOW.out k hk; omega)
            exact ⟨hdX.cell HV.out, hdX.froz _, hdX.lt, hB1.c, fun u => (hB1.off (p := ⟨gL, node.toNat, none⟩) (by show n ≠ gL; omega) u).c⟩
          have HGX := hid hGX
          clear hGX
          go_wp2_with fail
          rw [HW9.out]
          with_reducible refine HCI.out.mono ?_
          rintro r w10 ⟨v', rfl, ho', hk', hg'⟩
          obtain ⟨A', c', rfl⟩ := own_shape ho'
          obtain ⟨dX, fX, lX, c1X, hXs⟩ := HGX.out w10 hg'
          have hP := (HRW.out.on HB9.out).put node.toNat _ (.slice A' YL.length c') YL HV.out hg' ho' hk'
          have hKe : (fun j => if j = node.toNat then YL else catK m (kidF L m) (kidF M m2) j) = putK L M node at_ := by
            funext j
            unfold putK insK
            rw [HM.out, HM2.out]
            by_cases e : j = node.toNat
            · rw [if_pos e, if_pos e, e, HCK.out, HYL.out]
            · rw [if_neg e, if_neg e]
          rw [hKe] at hP
          have tX : Turn (fun k => w3.heap.size ≤ k) w0 (w10.setCell ⟨gL, node.toNat, none⟩ (.slice A' YL.length c')) :=
            ((Turn.of_below HB9.out).trans (Turn.grown hg' (fun k hk => own_ge HOW.out k hk))).trans (Turn.set (C := fun k => w3.heap.size ≤ k) (p := ⟨gL, node.toNat, none⟩) hgL1 _)
          have FX := HFE.out.turnC HN.out tX (fun k hk => by omega)
          have HP := hid hP
          have HFX := hid FX
          clear hP hKe tX FX ho' hk' hg' c1X hXs
          go_upto_region 24 with fail
          generalize w10.setCell ⟨gL, node.toNat, none⟩ (.slice A' YL.length c') = X at *
          obtain ⟨X1, hX1⟩ : ∃ X1, X.alloc (.cells #[.slice (some ⟨g, o, none⟩) m c, .slice A2 m2 c2] 23) = X1 := ⟨_, rfl⟩
          have hbX1 : Below X.heap.size X X1 := by
            rw [← hX1]
            exact (Below.refl _ _).alloc (Nat.le_refl _) _
          have hvX1 : X1.heap[X.heap.size]? = some (.cells #[.slice (some ⟨g, o, none⟩) m c, .slice A2 m2 c2] 23 (0, 0)) := by
            rw [← hX1]
            exact World.alloc_heap_new _ _
          have hbn : Below n w X1 := HFX.out.bl.trans (hbX1.mono (by have := HFX.out.bl.size; have := HN.out; omega))
          have hsX1 := hbn.size
          have hll : (L ++ M).length = m + m2 := by rw [List.length_append, HM.out, HM2.out]
          have CC := Concat_any L M (some ⟨g, o, none⟩) A2 c c2 X.heap.size X1 (by rw [HM.out, HM2.out]; exact hvX1) (HA.out.below (hbn.mono (by have := HN.out; omega))) (HA2.out.below (hbn.mono (by have := HN.out; omega))) (by omega) (by rw [HM.out, HM2.out]; omega) (by rw [HM.out]; omega) (by rw [HM2.out]; omega)
          rw [HM.out, HM2.out] at CC
          have hkm := HTO.out.put HTO2.out (node := node) (a := at_.toNat) o1 (by rw [HM.out]; exact o2)
          have hko : ∀ i, (L ++ M).length ≤ i → putK L M node at_ i = [] := by
            rw [List.length_append]
            exact insK_out (catK_out (kidF_out M)) (by have := HM.out; omega)
          rw [← List.length_append] at hkm
          have hok2 : ∀ x ∈ L ++ M, x.ok := fun x hx => by
            rcases List.mem_append.1 hx with hx | hx
            · exact HO.out x hx
            · exact HOM.out x hx
          have FC := fun (w12 : World) (A3 : Option Addr) (c3 : Nat) (hnd : NdsAt w12.heap.size w12 A3 (L ++ M)) (hb : Below X.heap.size X w12) =>
            form_tree (L ++ M) hok2 A3 c3 cl 0 w12 hnd (Nat.le_refl _) (HP.out.on hb) (by rw [List.length_set, List.length_append, List.length_append, hvl, hul, HM.out, HM2.out]) (by rw [hll]; omega) hko hkm (by decide) (Int.le_refl 0) (by rw [hll]; omega) (fun x hx => by
              rcases List.mem_append.1 hx with hx | hx
              · exact HTO.out.wl x hx
              · exact HTO2.out.wl x hx)
          have hRok : ∀ x ∈ putR L M node at_, x.ok := formL_ok hok2 (hkm.lens (by rw [hll]; omega) hko)
          have hTX : Tabs X := tabs_on HT.out (by rw [HN.out]; exact HFX.out.bl)
          have TC := fun (w4 : World) (b0 : Nat) (A4 : Option Addr) (c4 : Nat) (hS : SpecO b0 w4 A4 c4 (putR L M node at_)) (hb : Below X.heap.size X w4) =>
            told_any (putR L M node at_) hRok b0 A4 c4 w4 (tabs_on hTX hb) hS
          unfold FormP at FC
          have hRR : formL (L ++ M) (putK L M node at_) (ordL (putK L M node at_) 0) = putR L M node at_ := rfl
          rw [hRR, hll] at FC
          have hz3 := HZ2.out
          obtain ⟨R, hR⟩ : ∃ R, putR L M node at_ = R := ⟨_, rfl⟩
          rw [hR] at FC TC hz3
          obtain ⟨RT, hRT⟩ : ∃ RT, toldL R = RT := ⟨_, rfl⟩
          obtain ⟨RZ, hRZ⟩ : ∃ RZ, chkC R = RZ := ⟨_, rfl⟩
          rw [hRT, hRZ] at TC hz3
          subst hz3
          have HFC := hid FC
          have HTC := hid TC
          have HX1 := hid hX1
          have HBX1 := hid hbX1
          have x0 := HFX.out.b0.c
          have x1 := HFX.out.b1.c
          clear FC TC hX1 hbX1 hvX1 hbn hll hkm hko hok2 hRok hTX hRR hR hRT hRZ HZ2
          show Code.wp _ _ (Exit.then _ (bodyPost Tryd.prog Tryd.f14 (SpcP w RT RZ))) _ _
          go_wp2_with fail
          rw [HX1.out]
          with_reducible refine CC.mono ?_
          rintro e w11 ⟨A3, c3, rfl, hnd, hb11⟩
          have hbX2 := HBX1.out.trans (hb11.mono HBX1.out.size)
          have FC := HFC.out w11 A3 c3 hnd hbX2
          have HBX2 := hid hbX2
          clear CC x0 x1 hnd hb11 hbX2
          go_wp2_with fail
          with_reducible refine FC.mono ?_
          rintro e w12 ⟨A4, c4, rfl, hS4, hb12⟩
          have hbX3 := HBX2.out.trans (hb12.mono HBX2.out.size)
          have TC := HTC.out w12 w11.heap.size A4 c4 hS4 hbX3
          have HBX3 := hid hbX3
          clear FC hS4 hbX3 hb12
          go_wp2_with fail
          with_reducible refine TC.mono ?_
          rintro e w13 ⟨A5, c5, rfl, hS5, hb13⟩
          have hbX4 := HBX3.out.trans (hb13.mono HBX3.out.size)
          have F13 := HFX.out.below HN.out hbX4
          have hlX := HFX.out.b2.lt
          have hsX2 := HBX2.out.size
          have R13 := hid (F13.res (.slice A5 RT.length c5))
          have SE := hid ((hS5.off (b := n + 1 + 1) (j := 0) (u := .slice A5 RT.length c5) (by omega)).mono (show n ≤ w11.heap.size by omega))
          obtain ⟨d2, f2⟩ := F13.b2
          have l2 := F13.b2.lt
          clear TC hS5 hbX4 F13 hb13
          go_wp2
          generalize w13.setCell ⟨n + 1 + 1, 0, none⟩ (.slice A5 RT.length c5) = E9 at *
          obtain ⟨c9, _⟩ := R13.out.1
          refine bodyPost_ret (v := .tuple #[.agg #[.slice A5 RT.length c5], .int .i64 RZ]) (by simp [results, Tryd.results14, go_sem, *]) rfl ⟨A5, c5, rfl, by rw [HN.out]; exact SE.out, by rw [HN.out]; exact R13.out.2⟩
    · have hz1 := HZ1.out
      rw [if_pos hez0] at hz1
      subst hz1
      have hezb : (ez == 0) = false := beq_eq_false_iff_ne.2 hez0
      obtain ⟨d2, f2⟩ := HF3.out.b2
      have l2 := HF3.out.b2.lt
      have R2 := hid (HF3.out.res (.slice none 0 0))
      go_wp2
      generalize w3.setCell ⟨n + 1 + 1, 0, none⟩ (.slice none 0 0) = E9 at *
      obtain ⟨c9, _⟩ := R2.out.1
      refine bodyPost_ret (v := .tuple #[.agg #[.slice none 0 0], .int .i64 ez]) (by simp [results, Tryd.results14, go_sem, *]) rfl ⟨none, 0, rfl, SpecO.nil, by rw [HN.out]; exact R2.out.2⟩
  · rw [if_pos he]
    obtain ⟨m, hm⟩ : ∃ m, L.length = m := ⟨_, rfl⟩
    obtain ⟨m2, hm2⟩ : ∃ m2, M.length = m2 := ⟨_, rfl⟩
    rw [hm] at C k0 HW HPB ⊢
    rw [hm2] at HW HPB ⊢
    have he0 : (E == 0) = false := beq_eq_false_iff_ne.2 he
    clear h0 hE hm hm2 hA hA1 hA2 hok hokM hT hTW hW hl hl2 hn hPB
    go_enter Tryd.func14, Tryd.ntmps14
    go_upto_region 1 with fail
    rw [HW.out, HN.out]
    go_wp2_with fail
    with_reducible refine C.mono ?_
    rintro e w2 ⟨rfl, hb2⟩
    have F2 := HPB.out.below HN.out hb2
    have R2 := hid (F2.res (.slice none 0 0))
    obtain ⟨d2, f2⟩ := F2.b2
    have l2 := F2.b2.lt
    clear C k0 hb2 F2
    go_wp2
    generalize w2.setCell ⟨n + 1 + 1, 0, none⟩ (.slice none 0 0) = E9 at *
    obtain ⟨c9, _⟩ := R2.out.1
    refine bodyPost_ret (v := .tuple #[.agg #[.slice none 0 0], .int .i64 E]) (by simp [results, Tryd.results14, go_sem, *]) rfl ⟨none, 0, rfl, SpecO.nil, by rw [HN.out]; exact R2.out.2⟩
end Go.Proofs.YtnkojoajcdhngaaDoor
