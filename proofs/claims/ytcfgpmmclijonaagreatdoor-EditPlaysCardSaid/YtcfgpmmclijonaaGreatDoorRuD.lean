/- Layer 3: the program's pieces of a text. -/
import Derived.Test.YtcfgpmmclijonaaGreatDoorRuB
import Derived.Lib.OthersKept
namespace Go.Proofs.YtcfgpmmclijonaaGreatDoor
set_option linter.unusedVariables false
set_option linter.unusedSimpArgs false
set_option maxRecDepth 100000
open Go.RowKit Go.Lib

/-- A contract that may be left where the text is great. -/
def Out (G : Prop) (R : Ending → World → Prop) : Ending → World → Prop := fun e w' => R e w' ∨ (e = .outgrown ∧ G)
def Great (n : Nat) : Prop := 4000000000000 < n
theorem blk_on' {w w' : World} {k : Nat} {o : Obj} (h : w.heap[k]? = some o) (hb : Below w.heap.size w w') : w'.heap[k]? = some o := by rw [hb.block k (lt_of_block h)]; exact h
theorem own_iterAt {w : World} {B e size n : Nat} {v : Value} {xs : List Value} {k : Nat} {s : ByteArray} {pos : Nat} (h : w.ownsRow B e size v n xs) (hk : w.heap[k]? = some (.stringIter s pos)) (pos' : Nat) : (w.iterAt k s pos').ownsRow B e size v n xs := by
  refine ⟨h.1, ?_⟩
  rcases h.2 with h0 | ⟨g, cap, cur, hv, hb, hg, rest⟩
  · exact .inl h0
  · refine .inr ⟨g, cap, cur, hv, hb, ?_, rest⟩
    rw [Lib.iterAt_other _ _ _ _ _ (fun e => by subst e; rw [hk] at hg; cases hg)]
    exact hg
theorem own_ne_iter {w : World} {B e size n : Nat} {v : Value} {xs : List Value} {k : Nat} {s : ByteArray} {pos : Nat} (h : w.ownsRow B e size v n xs) (hk : w.heap[k]? = some (.stringIter s pos)) : some k ≠ v.ownBlock := by
  rcases h.2 with ⟨rfl, _⟩ | ⟨g, cap, cur, rfl, hb, hg, rest⟩
  · simp [Value.ownBlock]
  · intro e
    simp only [Value.ownBlock, Option.some.injEq] at e
    subst e
    rw [hk] at hg
    cases hg
theorem info_piece : (Tryz.prog.info? 92).map (fun i => (i.zero, i.size, i.bytes)) = some (some (.agg #[.int .i64 0, .int .i64 0, .int .i32 0]), 3, 24) := by kernel_rfl
theorem info_rpiece : (Tryz.prog.info? 103).map (fun i => (i.zero, i.size, i.bytes)) = some (some (.agg #[.int .i64 0, .int .i64 0, .int .i32 0, .int .i64 0]), 4, 32) := by kernel_rfl
section
variable {ops : Array Oper} {rest : List Oper} {o : Oper} {a : Act} {Q : Exit → Act → World → Prop} {w : World}
/-- One more element, just laid in block g. -/
theorem append_one {E S : TypeId} {size bytes : Nat} {i0 : TypeInfo} {z : Value} (hu : Tryz.prog.underlying S = some (.slice E)) (hi : Tryz.prog.info? E = some i0) (hz0 : i0.zero = some z) (hz1 : i0.size = size) (hz2 : i0.bytes = bytes) (hzs : z.cells.size = size) (hsz : 0 < size) (hb0 : 0 < bytes)
    (hgd : o.guard = none) (s x : Operand) (ho : o.op = .call { callee := .builtin .append, args := #[s, x], argTypes := #[S, S] }) (base : Nat) (v : Value) (n : Nat) (xs : List Value) (g : Nat) (cs : Array Value) (t : TypeId)
    (hs : a.eval s = v) (hx : a.eval x = .slice (some ⟨g, 0, none⟩) 1 1) (hown : w.ownsRow base E size v n xs) (hg : w.heap[g]? = some (.cells cs t (0, 0))) (hcs : cs.size = size) (h1 : ∀ u ∈ cs.toList, u.oneCell' = true) (hapart : v.ownBlock ≠ some g) (hbase : base ≤ w.heap.size)
    (hout : 140737488355328 < (n + 1) * bytes → LetsOut Q)
    (h : ∀ v' w', w'.ownsRow base E size v' (n + 1) (xs ++ cs.toList) → w.grownBy w' v.ownBlock → v' ≠ .slice none 0 0 → wpList Tryz.prog ops Q rest (a.put o.dst v') w') : wpList Tryz.prog ops Q (o :: rest) a w := by
  refine wpList_append_out w hgd s x S ho base E i0 z size bytes hu hi hz0 hz1 hz2 hzs hsz hb0 v n xs hs hown ⟨g, 0, none⟩ 1 1 cs.toList hx (by simp [hcs]) (fun j u hj => ?_) h1 hapart ?_ hbase hout (fun v' w' h4 h5 h6 => ?_)
  · rw [show (⟨g, 0, none⟩ : Addr).add j = ⟨g, j, none⟩ by unfold Addr.add; split <;> simp_all]
    rw [blk_cell hg]
    simpa using hj
  · unfold Room.holdsV World.shape?
    rw [hg]
    simp [hcs]
  · refine h v' w' h4 h5 (fun e => ?_)
    have := (h6.1 e).2
    omega
end
theorem own_at3 {w : World} {B : Nat} {g c : Nat} {t : TypeId} {P : List (Nat × Nat)} {n : Nat} (h : w.ownsRow B t 3 (.slice (some ⟨g, 0, none⟩) n c) n (prw 0 P)) (hn : P.length = n) {k : Nat} (hk : k < P.length) :
    w.cell? ⟨g, k * 3, none⟩ = some (.int .i64 (off P k : Int)) ∧ w.cell? ⟨g, k * 3 + 1, none⟩ = some (.int .i64 (off P (k + 1) : Int)) ∧ w.cell? ⟨g, k * 3 + 2, none⟩ = some (.int .i32 (P[k].2 : Int)) := by
  obtain ⟨h0, h1, h2⟩ := prw_at P 0 k hk
  rw [Nat.zero_add] at h0 h1
  exact ⟨by rw [h.cellAt _ (by omega), h0], by rw [h.cellAt _ (by omega), h1], by rw [h.cellAt _ (by omega), h2]⟩
/-- The state of the loop over a text's runes. -/
def PSt (s : ByteArray) (B0 K pos : Nat) (v : Value) (w : World) : Prop :=
  (pos = 0 ∧ v = .slice none 0 0) ∨ ∃ (B : List (Nat × Nat)) (n r g c : Nat), v = .slice (some ⟨g, 0, none⟩) (B.length + 1) c ∧ PInv s.data.toList pos B n r ∧ w.ownsRow B0 92 3 v (B.length + 1) (prw 0 (B ++ [(s.size - sumw B, r)]))
theorem len_le_sumw : ∀ (B : List (Nat × Nat)), (∀ p ∈ B, 1 ≤ p.1) → B.length ≤ sumw B
  | [], _ => Nat.le_refl _
  | p :: B, h => by
    have h1 := h p (.head _)
    have h2 := len_le_sumw B (fun q hq => h q (.tail _ hq))
    simp only [sumw, List.map_cons, List.sum_cons, List.length_cons] at *
    omega
theorem pinv_len {s : By} {i n r : Nat} {B : List (Nat × Nat)} (h : PInv s i B n r) : B.length ≤ sumw B ∧ sumw B + n = i ∧ sumw B ≤ i := by
  obtain ⟨h1, h2, h3⟩ := h
  refine ⟨len_le_sumw B (fun p hp => pcs_pos s p ?_), h2, by omega⟩
  rw [h1]
  exact List.mem_append_left _ hp
theorem prw_snoc (A : List (Nat × Nat)) (pos size m : Nat) (hA : sumw A = pos) (hp : pos ≤ size) : prw 0 A ++ (#[.int .i64 (pos : Int), .int .i64 (size : Int), .int .i32 (m : Int)] : Array Value).toList = prw 0 (A ++ [(size - sumw A, m)]) := by
  rw [prw_append]
  subst hA
  simp only [prw, Nat.zero_add]
  rw [show sumw A + (size - sumw A) = size by omega]
set_option maxHeartbeats 8000000 in
set_option maxRecDepth 100000 in
theorem pieces_any (s : ByteArray) (w : World) (hs : s.size ≤ 1000000000000000000) :
    Calls Tryz.prog 64 #[.string s] w (Out (Great s.size) fun e w' => ∃ A c, e = .returned (.slice A (pcs s.data.toList).length c) ∧ w'.ownsRow w.heap.size 92 3 (.slice A (pcs s.data.toList).length c) (pcs s.data.toList).length (prw 0 (pcs s.data.toList)) ∧ Below w.heap.size w w') := by
  have hlen : s.data.toList.length = s.size := by simp
  go_enter Tryz.func64, Tryz.ntmps64
  go_wp2
  go_loopg [3] s.size (fun gh v wr => ∃ pos : Nat, pos ≤ s.size ∧ s.size - pos ≤ gh ∧ wr.heap[w.heap.size]? = some (.stringIter s pos) ∧ Hid (Below w.heap.size w wr) ∧ Hid (PSt s w.heap.size w.heap.size pos v wr))
  case atStart =>
    refine ⟨0, by omega, by omega, ?_, hid ((Below.refl _ w).alloc (Nat.le_refl _) _), hid (.inl ⟨rfl, rfl⟩)⟩
    exact World.iter_heap w s 0
  case round =>
    obtain ⟨pos, hp, hgh, hit, HB, HS⟩ := hrel
    have hsw := HB.out.size
    by_cases hlt : pos < s.size
    · have hlt' : pos < s.data.toList.length := by rw [hlen]; exact hlt
      have hnx : ∀ ty, (Instr.next (.pointer (some ⟨w.heap.size, 0, none⟩)) true ty).run Tryz.prog wr = .ok (.tuple #[.bool true, .int .i64 pos, .int .i32 (rn (lft s.data.toList pos) : Int)]) (wr.iterAt w.heap.size s (pos + wd (lft s.data.toList pos))) := fun ty => by
        rw [Lib.run_next_any_at wr w.heap.size s pos ty hit hlt, decode_drop]
        rfl
      have hit2 := Lib.iterAt_heap wr w.heap.size s pos (pos + wd (lft s.data.toList pos)) hit
      have hbw2 := Lib.below_iterAt HB.out (k := w.heap.size) (Nat.le_refl _) s (pos + wd (lft s.data.toList pos))
      have hsz2 : wr.heap.size = (wr.iterAt w.heap.size s (pos + wd (lft s.data.toList pos))).heap.size := (Lib.iterAt_size _ _ _ _).symm
      have hw1 := wd_pos (lft s.data.toList pos)
      have hw2 := lft_wd hlt'
      rw [hlen] at hw2
      have hrn := rn_le (lft s.data.toList pos)
      have hkl : w.heap.size < wr.heap.size := lt_of_block hit
      rcases HS.out with ⟨rfl, rfl⟩ | ⟨B, n, r, g, c, rfl, hP, hown⟩
      · have HP := hid (pinv_first hlt')
        generalize wr.iterAt w.heap.size s (0 + wd (lft s.data.toList 0)) = W at *
        generalize hm : rn (lft s.data.toList 0) = m at *
        generalize hn1 : wd (lft s.data.toList 0) = n1 at *
        have HH := hid (And.intro hit2 hbw2)
        clear hbw2 HS HB hm hn1
        go_wp2_with (at_builtin; obtain ⟨i0, hi, hz0, hz1, hz2⟩ := info_parts info_piece; refine append_one Tryz.underlying88 hi hz0 hz1 hz2 rfl (by decide) (by decide) rfl _ _ rfl w.heap.size (.slice none 0 0) 0 [] W.heap.size #[.int .i64 0, .int .i64 s.size, .int .i32 (m : Int)] 92 rfl rfl (World.ownsRow_nil _ _ _ _) (heap_alloc_new _ _) rfl (by simp [Value.oneCell']) (by simp [Value.ownBlock]) (by simp; omega) (by omega) (fun v' w3 hown3 hgr3 hne3 => ?_))
        have hb3 : Below w.heap.size w w3 := ((HH.out.2.alloc (by omega) _).grown hgr3 (by simp; omega) (fun k hk => by simp [Value.ownBlock] at hk))
        have hit3 : w3.heap[w.heap.size]? = some (.stringIter s (0 + n1)) := by
          rw [hgr3.block _ (by simp; omega) (by simp [Value.ownBlock])]
          exact (Lib.alloc_old W _ _ (by omega)).trans HH.out.1
        obtain ⟨A, c, rfl⟩ := own_shape hown3
        obtain ⟨g, rfl, hg1, hg2⟩ := own_head hown3 (by omega)
        have HN : Hid (PSt s w.heap.size w.heap.size (0 + n1) (.slice (some ⟨g, 0, none⟩) (0 + 1) c) w3) := hid (.inr ⟨[], n1, m, g, c, rfl, by rw [Nat.zero_add]; exact HP.out, by
          have e : prw 0 ([] ++ [(s.size - sumw [], m)]) = [] ++ (#[.int .i64 0, .int .i64 s.size, .int .i32 (m : Int)] : Array Value).toList := by simp [prw, sumw]
          rw [e]
          exact hown3⟩)
        have HB3 := hid hb3
        clear hown3 hgr3 hne3 HH HP hb3
        go_wp2
        go_roundg (s.size - (0 + n1))
        case measure => omega
        case rel => exact ⟨0 + n1, by omega, by omega, hit3, HB3, HN⟩
      · have hpl := pinv_len hP
        have HPK := hid (fun h1 h2 => pinv_keep hP hlt' h1 h2)
        have HPN := hid (fun h1 => pinv_new hP hlt' h1)
        have hownW := own_iterAt hown hit (pos + wd (lft s.data.toList pos))
        have hg := own_head hown (by omega)
        obtain ⟨g', hg0, hg1, hg2⟩ := hg
        obtain rfl : g = g' := by injection hg0 with hg0; injection hg0
        have hgk : g ≠ w.heap.size := fun e => (own_ne_iter hown hit) (by simp [Value.ownBlock, e])
        clear hP hown HS HB hg0
        have hCM := fun x => mark_any (rn (lft s.data.toList pos) : Int) x
        have hCC := fun x => ctl_any (r : Int) x
        have hB0 : ∀ k : Nat, k < 3 → B.length * 3 + k < (prw 0 (B ++ [(s.size - sumw B, r)])).length := fun k hk => by rw [prw_len]; simp; omega
        obtain ⟨e0, e1, e2⟩ := prw_at (B ++ [(s.size - sumw B, r)]) 0 B.length (by simp)
        rw [show ((B ++ [(s.size - sumw B, r)])[B.length]'(by simp)).2 = r by simp] at e2
        have HE := hid (And.intro e1 e2)
        clear e0 e1 e2 hB0
        generalize wr.iterAt w.heap.size s (pos + wd (lft s.data.toList pos)) = W at *
        generalize hm : rn (lft s.data.toList pos) = m at *
        generalize hn1 : wd (lft s.data.toList pos) = n1 at *
        have HH := hid (And.intro hit2 (And.intro hbw2 hownW))
        clear hit2 hbw2 hownW hm hn1
        generalize hq : B.length = q at *
        have HQ := hid hq
        clear hq
        have hq1 : (q : Int) + 1 ≤ 1000000000000000001 := by omega
        by_cases hmk : isMark (m : Int) = true
        · rw [hmk] at hCM
          cases hct : isCtl (r : Int) with
          | true =>
            rw [hct] at hCC
            have hPN := HPN.out (.inr hct)
            have HP := hid hPN
            clear HPK HPN hPN
            go_wp2_with fail
            refine (hCM _).mono ?_
            rintro e w2 ⟨rfl, hb2⟩
            have hown2 := own_below' HH.out.2.2 hb2
            have c2 := hown2.cellAt (q * 3 + 2) (by omega)
            rw [HE.out.2] at c2
            have hs2 := hb2.size
            have H2 := hid (And.intro (blk_on' HH.out.1 hb2) (And.intro (HH.out.2.1.trans (hb2.mono HH.out.2.1.size)) hown2))
            clear hown2 hb2 HH
            go_wp2_with fail
            refine (hCC _).mono ?_
            rintro e w3 ⟨rfl, rfl⟩
            clear c2
            have hown2 := H2.out.2.2
            have c1 := hown2.cellAt (q * 3 + 1) (by omega)
            rw [HE.out.1] at c1
            have f1 := hown2.frozenAt (q * 3 + 1)
            have hst := own_store hown2 (q * 3 + 1) (.int .i64 (pos : Int))
            have es := prw_set B (s.size - sumw B) n r
            rw [HQ.out, hpl.2.1] at es
            rw [es] at hst
            have hbs := H2.out.2.1.setCell (p := ⟨g, q * 3 + 1, none⟩) hg1 (.int .i64 (pos : Int))
            have hits := (heap_setCell_other w2 ⟨g, q * 3 + 1, none⟩ w.heap.size (.int .i64 (pos : Int)) (by simpa using Ne.symm hgk)).trans H2.out.1
            have hsz3 : (w2.setCell ⟨g, q * 3 + 1, none⟩ (.int .i64 (pos : Int))).heap.size = w2.heap.size := by simp
            have H3 := hid (And.intro hits (And.intro hbs (And.intro hst hsz3)))
            clear hown2 hst es hbs hits H2 hsz3
            go_wp2_with (at_builtin; obtain ⟨i0, hi, hz0, hz1, hz2⟩ := info_parts info_piece; refine append_one Tryz.underlying88 hi hz0 hz1 hz2 rfl (by decide) (by decide) rfl _ _ rfl w.heap.size (.slice (some ⟨g, 0, none⟩) (q + 1) c) (q + 1) (prw 0 (B ++ [(n, r)])) w2.heap.size #[.int .i64 (pos : Int), .int .i64 s.size, .int .i32 (m : Int)] 92 rfl rfl (own_below' H3.out.2.2.1 ((Below.refl _ _).alloc (Nat.le_refl _) _)) (by have := heap_alloc_new (w2.setCell ⟨g, q * 3 + 1, none⟩ (.int .i64 (pos : Int))) (.cells #[.int .i64 (pos : Int), .int .i64 s.size, .int .i32 (m : Int)] 92); rwa [H3.out.2.2.2] at this) rfl (by simp [Value.oneCell']) (by simp [Value.ownBlock]; omega) (by simp; omega) (fun hgt => LetsOut.intro ⟨#[], []⟩ w (Or.inr ⟨rfl, by unfold Great; omega⟩)) (fun v' w4 hown4 hgr4 hne4 => ?_))
            have hb4 : Below w.heap.size w w4 := ((H3.out.2.1.alloc (by rw [H3.out.2.2.2]; omega) _).grown hgr4 (by simp; omega) (fun k hk => by simp [Value.ownBlock] at hk; omega))
            have hit4 : w4.heap[w.heap.size]? = some (.stringIter s (pos + n1)) := by
              rw [hgr4.block _ (by simp; omega) (by simp [Value.ownBlock]; exact Ne.symm hgk)]
              exact (Lib.alloc_old _ _ _ (by rw [H3.out.2.2.2]; omega)).trans H3.out.1
            rw [prw_snoc (B ++ [(n, r)]) pos s.size m (by rw [sumw_append]; simp [sumw]; simp [sumw] at hpl; omega) (by omega)] at hown4
            obtain ⟨A, c', rfl⟩ := own_shape hown4
            obtain ⟨gx, rfl, hgx1, hgx2⟩ := own_head hown4 (by omega)
            have HN : Hid (PSt s w.heap.size w.heap.size (pos + n1) (.slice (some ⟨gx, 0, none⟩) (q + 1 + 1) c') w4) := hid (.inr ⟨B ++ [(n, r)], n1, m, gx, c', by simp [HQ.out], HP.out, by simpa [HQ.out] using hown4⟩)
            have HB4 := hid hb4
            clear hown4 hgr4 hne4 H3 HP hb4 c1 f1
            go_wp2
            go_roundg (s.size - (pos + n1))
            case measure => omega
            case rel => exact ⟨pos + n1, by omega, by omega, hit4, HB4, HN⟩
          | false =>
            rw [hct] at hCC
            have hPN := HPK.out hmk hct
            have HP := hid hPN
            clear HPK HPN hPN
            go_wp2_with fail
            refine (hCM _).mono ?_
            rintro e w2 ⟨rfl, hb2⟩
            have hown2 := own_below' HH.out.2.2 hb2
            have c2 := hown2.cellAt (q * 3 + 2) (by omega)
            rw [HE.out.2] at c2
            have hs2 := hb2.size
            have H2 := hid (And.intro (blk_on' HH.out.1 hb2) (And.intro (HH.out.2.1.trans (hb2.mono HH.out.2.1.size)) hown2))
            clear hown2 hb2 HH
            go_wp2_with fail
            refine (hCC _).mono ?_
            rintro e w3 ⟨rfl, rfl⟩
            go_wp2
            have HN : Hid (PSt s w.heap.size w.heap.size (pos + n1) (.slice (some ⟨g, 0, none⟩) (q + 1) c) w2) := hid (.inr ⟨B, n + n1, r, g, c, by rw [HQ.out], HP.out, by rw [HQ.out]; exact H2.out.2.2⟩)
            have HB2 := hid H2.out.2.1
            have hit3 := H2.out.1
            clear H2
            go_roundg (s.size - (pos + n1))
            case measure => omega
            case rel => exact ⟨pos + n1, by omega, by omega, hit3, HB2, HN⟩
        · have hmk' : isMark (m : Int) = false := by simpa using hmk
          rw [hmk'] at hCM
          have hPN := HPN.out (.inl hmk')
          have HP := hid hPN
          clear HPK HPN hPN
          go_wp2_with fail
          refine (hCM _).mono ?_
          rintro e w2 ⟨rfl, hb2⟩
          have hown2 := own_below' HH.out.2.2 hb2
          have c2 := hown2.cellAt (q * 3 + 2) (by omega)
          rw [HE.out.2] at c2
          have hs2 := hb2.size
          have H2 := hid (And.intro (blk_on' HH.out.1 hb2) (And.intro (HH.out.2.1.trans (hb2.mono HH.out.2.1.size)) hown2))
          clear hown2 hb2 HH
          clear c2
          have hown2 := H2.out.2.2
          have c1 := hown2.cellAt (q * 3 + 1) (by omega)
          rw [HE.out.1] at c1
          have f1 := hown2.frozenAt (q * 3 + 1)
          have hst := own_store hown2 (q * 3 + 1) (.int .i64 (pos : Int))
          have es := prw_set B (s.size - sumw B) n r
          rw [HQ.out, hpl.2.1] at es
          rw [es] at hst
          have hbs := H2.out.2.1.setCell (p := ⟨g, q * 3 + 1, none⟩) hg1 (.int .i64 (pos : Int))
          have hits := (heap_setCell_other w2 ⟨g, q * 3 + 1, none⟩ w.heap.size (.int .i64 (pos : Int)) (by simpa using Ne.symm hgk)).trans H2.out.1
          have hsz3 : (w2.setCell ⟨g, q * 3 + 1, none⟩ (.int .i64 (pos : Int))).heap.size = w2.heap.size := by simp
          have H3 := hid (And.intro hits (And.intro hbs (And.intro hst hsz3)))
          clear hown2 hst es hbs hits H2 hsz3
          go_wp2_with (at_builtin; obtain ⟨i0, hi, hz0, hz1, hz2⟩ := info_parts info_piece; refine append_one Tryz.underlying88 hi hz0 hz1 hz2 rfl (by decide) (by decide) rfl _ _ rfl w.heap.size (.slice (some ⟨g, 0, none⟩) (q + 1) c) (q + 1) (prw 0 (B ++ [(n, r)])) w2.heap.size #[.int .i64 (pos : Int), .int .i64 s.size, .int .i32 (m : Int)] 92 rfl rfl (own_below' H3.out.2.2.1 ((Below.refl _ _).alloc (Nat.le_refl _) _)) (by have := heap_alloc_new (w2.setCell ⟨g, q * 3 + 1, none⟩ (.int .i64 (pos : Int))) (.cells #[.int .i64 (pos : Int), .int .i64 s.size, .int .i32 (m : Int)] 92); rwa [H3.out.2.2.2] at this) rfl (by simp [Value.oneCell']) (by simp [Value.ownBlock]; omega) (by simp; omega) (fun hgt => LetsOut.intro ⟨#[], []⟩ w (Or.inr ⟨rfl, by unfold Great; omega⟩)) (fun v' w4 hown4 hgr4 hne4 => ?_))
          have hb4 : Below w.heap.size w w4 := ((H3.out.2.1.alloc (by rw [H3.out.2.2.2]; omega) _).grown hgr4 (by simp; omega) (fun k hk => by simp [Value.ownBlock] at hk; omega))
          have hit4 : w4.heap[w.heap.size]? = some (.stringIter s (pos + n1)) := by
            rw [hgr4.block _ (by simp; omega) (by simp [Value.ownBlock]; exact Ne.symm hgk)]
            exact (Lib.alloc_old _ _ _ (by rw [H3.out.2.2.2]; omega)).trans H3.out.1
          rw [prw_snoc (B ++ [(n, r)]) pos s.size m (by rw [sumw_append]; simp [sumw]; simp [sumw] at hpl; omega) (by omega)] at hown4
          obtain ⟨A, c', rfl⟩ := own_shape hown4
          obtain ⟨gx, rfl, hgx1, hgx2⟩ := own_head hown4 (by omega)
          have HN : Hid (PSt s w.heap.size w.heap.size (pos + n1) (.slice (some ⟨gx, 0, none⟩) (q + 1 + 1) c') w4) := hid (.inr ⟨B ++ [(n, r)], n1, m, gx, c', by simp [HQ.out], HP.out, by simpa [HQ.out] using hown4⟩)
          have HB4 := hid hb4
          clear hown4 hgr4 hne4 H3 HP hb4 c1 f1
          go_wp2
          go_roundg (s.size - (pos + n1))
          case measure => omega
          case rel => exact ⟨pos + n1, by omega, by omega, hit4, HB4, HN⟩
    · have hpe : pos = s.size := by omega
      subst hpe
      have hnx : ∀ ty, (Instr.next (.pointer (some ⟨w.heap.size, 0, none⟩)) true ty).run Tryz.prog wr = _ := fun ty => Lib.run_next_end_at wr w.heap.size s s.size ty hit hlt
      rcases HS.out with ⟨hz, rfl⟩ | ⟨B, n, r, g, c, rfl, hP, hown⟩
      · have hnil : pcs s.data.toList = [] := by
          have : s.data.toList = [] := List.eq_nil_of_length_eq_zero (by omega)
          rw [this]
          rfl
        go_wp2
        go_ret
        refine .inl ⟨none, 0, by rw [hnil]; rfl, ?_, HB.out⟩
        rw [hnil]
        exact World.ownsRow_nil _ _ _ _
      · rw [← hlen] at hP
        have he := pinv_end hP
        have hl := pinv_len hP
        have hPL : (pcs s.data.toList).length = B.length + 1 := by rw [he]; simp
        have hn : s.size - sumw B = n := by omega
        rw [hn, ← he] at hown
        have HW := hid hown
        have HPL := hid hPL
        clear hown hPL hP he
        go_wp2
        go_ret
        exact .inl ⟨some ⟨g, 0, none⟩, c, by rw [HPL.out]; rfl, by rw [HPL.out]; exact HW.out, HB.out⟩
end Go.Proofs.YtcfgpmmclijonaaGreatDoor
