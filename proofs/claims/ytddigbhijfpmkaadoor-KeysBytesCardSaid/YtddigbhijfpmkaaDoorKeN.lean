/- Layer 21: Match, the reference's. -/
import Derived.Test.YtddigbhijfpmkaaDoorKeK
import Derived.Maps.AppendAt
namespace Go.Proofs.YtddigbhijfpmkaaDoor
set_option linter.unusedVariables false
set_option linter.unusedSimpArgs false
set_option maxRecDepth 100000
open Go.RowKit Go.Shelf Go.Lib
set_option maxRecDepth 100000
set_option maxHeartbeats 8000000

theorem own_apart {w w' : World} {base : Nat} {e : TypeId} {size n : Nat} {v : Value} {xs : List Value} {row : Option Nat} (h : w.ownsRow base e size v n xs) (hg : w.grownBy w' row) (hne : ∀ k, v.ownBlock = some k → row ≠ some k) : w'.ownsRow base e size v n xs := by
  refine h.kept hg ?_
  cases hv : v.ownBlock with
  | none => exact .inl rfl
  | some k => exact .inr fun e => hne k hv e.symm
theorem info_keys : (Tryd.prog.info? 23).map (fun i => (i.zero, i.size, i.bytes)) = some (some (.slice none 0 0), 1, 24) := by kernel_rfl
structure Ch where
  A : Option Addr
  c : Nat
  l : List Ky
def Ch.v (z : Ch) : Value := .slice z.A z.l.length z.c
section
variable {ops : Array Oper} {rest : List Oper} {o : Oper} {a : Act} {Q : Exit → Act → World → Prop} {w : World}
theorem append_chord (hgd : o.guard = none) (s x : Operand) (ho : o.op = .call { callee := .builtin .append, args := #[s, x], argTypes := #[53, 53] }) (base : Nat) (v : Value) (l : List Ch) (z : Ch) (g : Nat)
    (hs : a.eval s = v) (hx : a.eval x = .slice (some ⟨g, 0, none⟩) 1 1) (hown : w.ownsRow base 23 1 v l.length (l.map Ch.v)) (h0 : w.cell? ⟨g, 0, none⟩ = some z.v) (hn : l.length ≤ 1000000) (hbase : base ≤ w.heap.size)
    (h : ∀ v' w', w'.ownsRow base 23 1 v' (l.length + 1) ((l ++ [z]).map Ch.v) → w.grownBy w' v.ownBlock → (v'.ownBlock = v.ownBlock ∨ v'.ownBlock = some w.heap.size) → wpList Tryd.prog ops Q rest (a.put o.dst v') w') : wpList Tryd.prog ops Q (o :: rest) a w := by
  obtain ⟨i0, hi, hz0, hz1, hz2⟩ := info_parts info_keys
  refine wpList_append_own_at w hgd s x 53 ho base 23 i0 _ 1 24 Tryd.underlying53 hi hz0 hz1 hz2 rfl (by decide) v l.length (l.map Ch.v) hs hown ⟨g, 0, none⟩ 1 1 [z.v] hx rfl (fun j u hj => ?_) (fun v hv => ?_) (by unfold maxLen; omega) (by omega) hbase (fun v' w' h4 h5 _ h6 => h v' w' (by rw [List.map_append]; exact h4) h5 h6)
  · match j, hj with
    | 0, hj => simp at hj; subst hj; simpa [Addr.add] using h0
    | j + 1, hj => simp at hj
  · simp at hv
    subst hv
    rfl
end
structure ChMem (base : Nat) (outer : Value) (Z : List Ch) (wr : World) : Prop where
  own : wr.ownsRow base 23 1 outer Z.length (Z.map Ch.v)
  inner : ∀ z ∈ Z, wr.ownsRow base 31 2 z.v z.l.length (kys z.l)
  ap : ∀ z ∈ Z, ∀ k, z.v.ownBlock = some k → outer.ownBlock ≠ some k
section
variable {base : Nat} {outer : Value} {Z : List Ch} {z : Ch} {w wr w' : World}
theorem ChMem.start (base : Nat) (w : World) : ChMem base (.slice none 0 0) [] w := ⟨World.ownsRow_nil _ _ _ _, fun z hz => by simp at hz, fun z hz => by simp at hz⟩
theorem ChMem.on (h : ChMem base outer Z wr) (hb : Below wr.heap.size wr w') : ChMem base outer Z w' := ⟨own_below' h.own hb, fun z hz => own_below' (h.inner z hz) hb, h.ap⟩
theorem ChMem.at (h : ChMem base outer Z wr) {j : Nat} (hj : j < Z.length) : At wr.heap.size wr Z[j].A (kys Z[j].l) := At.of_own (h.inner Z[j] (List.getElem_mem hj))
/-- One chord more: found in w2 after a call from wr, put behind. -/
theorem ChMem.push {w2 w3 : World} {v' : Value} {o : Obj} (h : ChMem base outer Z wr) (hb : Below wr.heap.size wr w2) (hz : w2.ownsRow wr.heap.size 31 2 z.v z.l.length (kys z.l)) (hbase : base ≤ wr.heap.size)
    (ho : w3.ownsRow base 23 1 v' (Z.length + 1) ((Z ++ [z]).map Ch.v)) (hg : (w2.alloc o).grownBy w3 outer.ownBlock) (hl : v'.ownBlock = outer.ownBlock ∨ v'.ownBlock = some (w2.alloc o).heap.size) : ChMem base v' (Z ++ [z]) w3 := by
  have h2 := h.on hb
  have hne : ∀ k, z.v.ownBlock = some k → outer.ownBlock ≠ some k := fun k hk he => by
    have := (hz.lt k hk).1
    have := (h.own.lt k he).2
    omega
  have ha : ∀ y ∈ Z ++ [z], (w2.alloc o).ownsRow base 31 2 y.v y.l.length (kys y.l) ∧ ∀ k, y.v.ownBlock = some k → outer.ownBlock ≠ some k := fun y hy => by
    rcases List.mem_append.1 hy with hy | hy
    · exact ⟨(h2.inner y hy).alloc _, h2.ap y hy⟩
    · rw [List.mem_singleton] at hy
      subst hy
      exact ⟨(own_mono hz hbase).alloc _, hne⟩
  refine ⟨by rw [List.length_append]; exact ho, fun y hy => own_apart (ha y hy).1 hg (fun k hk => (ha y hy).2 k hk), fun y hy k hk he => ?_⟩
  rcases hl with hl | hl
  · rw [hl] at he
    exact (ha y hy).2 k hk he
  · rw [hl] at he
    injection he with he
    have := ((ha y hy).1.lt k hk).2
    omega
end
theorem starts_com : ∀ c k : List Ky, startsB c k = decide (comL c k = k.length)
  | c, [] => by cases c <;> simp [startsB, comL]
  | [], b :: t => by simp [startsB, comL]
  | a :: s, b :: t => by
    have ih := starts_com s t
    unfold startsB at ih ⊢
    rw [decide_eq_decide] at ih ⊢
    rw [comL]
    by_cases h : a = b
    · subst h
      rw [if_pos rfl]
      simp only [List.length_cons, Nat.add_le_add_iff_right, List.take_succ_cons, List.cons.injEq, true_and, Nat.add_right_cancel_iff]
      exact ih
    · rw [if_neg h]
      simp [h]
theorem starts_same {c k : List Ky} (h : startsB c k = true) (hl : c.length = k.length) : c = k := by
  rw [startsB_eq hl] at h
  exact of_decide_eq_true h
theorem starts_le {c k : List Ky} (h : startsB c k = true) : k.length ≤ c.length := (of_decide_eq_true h).1
theorem rMatch_any (B : Nat) (A1 A2 : Option Addr) (c1 c2 : Nat) (L : List By) (ks : List Ky) (w : World) (hT : Tabs w) (h1 : At B w A1 (strs L)) (h2 : At B w A2 (kys ks)) (hB : B ≤ w.heap.size) (l1 : L.length ≤ 4611686018427387904) (l2 : ks.length ≤ 4611686018427387904) (hnm : ∀ k ∈ ks, k.nm.length ≤ 9223372036854775807) :
    Calls Tryd.prog 21 #[.slice A1 L.length c1, .slice A2 ks.length c2] w fun e w' => e = .returned (MatchV (matchL L ks)) ∧ Below w.heap.size w w' := by
  by_cases h256 : 256 < L.length
  · have h1 : (256 : Int) < (L.length : Int) := by omega
    rw [show matchL L ks = (0, false, 4) by unfold matchL; rw [if_pos h256]]
    go_enter Tryd.func21, Tryd.ntmps21
    go_wp2
    refine bodyPost_ret (v := .tuple #[.int .i64 0, .bool false, .int .i64 4]) (by simp [results, Tryd.results21, go_sem, *]) rfl ⟨rfl, Below.refl _ _⟩
  · have h1' : ¬ ((256 : Int) < (L.length : Int)) := by omega
    have H1 := hid h1
    have H2 := hid h2
    clear h1 h2
    obtain ⟨FB, hFB⟩ : ∃ x, firstBad L = x := ⟨_, rfl⟩
    obtain ⟨AF, hAF⟩ : ∃ x, ks.all mayB = x := ⟨_, rfl⟩
    have hm : matchL L ks = if FB ≠ 0 then (0, false, FB) else if 8 < ks.length then (0, false, 4) else if AF then (whichL ks 0 L, moreB ks L, 0) else (0, false, 210) := by
      unfold matchL
      rw [if_neg h256, hFB, hAF]
    rw [hm]
    obtain ⟨Z0, hZ0⟩ : ∃ x, (if FB ≠ 0 then ((0 : Int), false, FB) else if 8 < ks.length then (0, false, 4) else if AF then (whichL ks 0 L, moreB ks L, 0) else (0, false, 210)) = x := ⟨_, rfl⟩
    rw [hZ0]
    have HZ0 := hid hZ0
    clear hZ0
    have i1 : L.length ≤ 256 := by omega
    have HF0 := hid hFB
    have HA0 := hid hAF
    have HNM := hid hnm
    clear hFB hAF hm h256 hnm
    go_enter Tryd.func21, Tryd.ntmps21
    go_wp2
    go_loopw [7, 8] (fun v7 v8 wr => ∃ (A : Option Addr) (c k : Nat) (Z : List Ch), v7 = .slice A k c ∧ v8 = .int .i64 k ∧ k ≤ L.length ∧ Hid (firstBad (L.drop k) = FB) ∧ Hid (Z.length = k ∧ Z.map (·.l) = (L.take k).map fun l => (chordL l).1) ∧ Hid (ChMem w.heap.size (.slice A k c) Z wr) ∧ Below w.heap.size w wr) (fun _ v8 _ => L.length - (RowKit.intOf v8).toNat)
    case atStart => exact ⟨none, 0, 0, [], rfl, rfl, by omega, hid (by rw [List.drop_zero]; exact HF0.out), hid ⟨rfl, rfl⟩, hid (ChMem.start _ _), Below.refl _ _⟩
    case round =>
      obtain ⟨A, c, k, Z, rfl, rfl, hk, HF, HM, HC, hbr⟩ := hrel
      have hsr := hbr.size
      by_cases hl : k < L.length
      · have i2 : (k : Int) < (L.length : Int) := by omega
        obtain ⟨g1, o1, rfl, hg1, x0⟩ := (H1.out.below (hbr.mono hB)).st hl
        have hf := HF.out
        rw [List.drop_eq_getElem_cons hl] at hf
        rw [bad_step] at hf
        have CC := rChord_any ⟨L[k].toArray⟩ wr (tabs_on hT hbr)
        rw [show (ByteArray.mk L[k].toArray).data.toList = L[k] by simp] at CC
        have hmap : (L.take (k + 1)).map (fun l => (chordL l).1) = (L.take k).map (fun l => (chordL l).1) ++ [(chordL L[k]).1] := by
          rw [List.take_succ_eq_append_getElem hl, List.map_append]
          rfl
        generalize chordL L[k] = Y at *
        obtain ⟨cl, zat, zer⟩ := Y
        simp only at hf hmap
        have lg1 : g1 < wr.heap.size := by omega
        generalize (⟨L[k].toArray⟩ : ByteArray) = sk at *
        have HMAP := hid hmap
        clear HF hmap
        by_cases he : zer = 0
        · subst he
          rw [if_neg (by simp)] at hf
          have HF := hid hf
          clear hf
          go_wp2_with fail
          refine CC.mono ?_
          rintro e w2 ⟨A2', cc, rfl, hown, hb2⟩
          have hB2 := hbr.trans (hb2.mono hsr)
          have hs2 := hB2.size
          have HOWN := hid hown
          have HB2 := hid hb2
          clear hown hb2 CC hbr
          obtain ⟨n, hn⟩ : ∃ n, cl.length = n := ⟨_, rfl⟩
          rw [hn]
          have HN := hid hn
          clear hn
          go_wp2_with (first | (at_builtin; refine append_chord rfl (.tmp 37) (.tmp 39) rfl w.heap.size (.slice A k c) Z ⟨A2', cc, cl⟩ w2.heap.size rfl rfl ?_ ?_ ?_ ?_ ?_))
          · exact ((HC.out.on HB2.out).own).alloc _
          · have := HN.out
            simp [go_sem, Ch.v, this]
          · have := HM.out.1
            omega
          · simp
            omega
          intro v3 w3 hown3 hg3 hl3
          have hzl := HM.out.1
          obtain ⟨A3, c3, rfl⟩ : ∃ A c, v3 = .slice A (k + 1) c := by
            have := own_shape hown3
            rwa [hzl] at this
          have HC3 : ChMem w.heap.size (.slice A3 (k + 1) c3) (Z ++ [⟨A2', cc, cl⟩]) w3 := HC.out.push HB2.out (show w2.ownsRow wr.heap.size _ 2 (.slice A2' cl.length cc) cl.length (kys cl) from HOWN.out) hsr (by rw [List.map_append]; exact hown3) hg3 (by simpa using hl3)
          have hb3 : Below w.heap.size w w3 := (hB2.alloc hs2 _).grown hg3 (by simp; omega) (own_ge HC.out.own)
          have HC3 := hid HC3
          clear hg3 hl3 hown3 hB2 HC
          go_wp2
          go_roundw
          case rel =>
            refine ⟨A3, c3, k + 1, Z ++ [⟨A2', cc, cl⟩], rfl, by go_num, by omega, HF, hid ⟨by rw [List.length_append, hzl]; rfl, ?_⟩, HC3, hb3⟩
            rw [List.map_append, HM.out.2, HMAP.out]
            rfl
          case measure => simp [RowKit.intOf]; omega
        · rw [if_pos he] at hf
          subst hf
          have hyi : ((zer : Int) == 0) = false := beq_eq_false_iff_ne.2 (by omega)
          have hz := HZ0.out
          rw [if_pos he] at hz
          subst hz
          clear he
          go_wp2_with fail
          refine CC.mono ?_
          rintro e w2 ⟨A2', cc, rfl, hown, hb2⟩
          have hB2 := hbr.trans (hb2.mono hsr)
          clear hown hb2 CC hbr
          go_wp2
          refine bodyPost_ret (v := .tuple #[.int .i64 0, .bool false, .int .i64 (zer : Int)]) (by simp [results, Tryd.results21, go_sem, *]) rfl ⟨rfl, hB2⟩
      · have i2 : ¬ ((k : Int) < (L.length : Int)) := by omega
        have hf := HF.out
        have hke : L.drop k = [] := List.drop_of_length_le (by omega)
        rw [hke] at hf
        have hf : 0 = FB := hf
        subst hf
        have hz := HZ0.out
        rw [if_neg (by simp)] at hz
        obtain rfl : k = L.length := by omega
        have hmm := HM.out
        rw [List.take_length] at hmm
        have HM1 := hid hmm
        clear HF HM HF0 HZ0 hke hmm
        by_cases h8 : 8 < ks.length
        · have j8 : (8 : Int) < (ks.length : Int) := by omega
          rw [if_pos h8] at hz
          subst hz
          clear h8
          go_wp2
          refine bodyPost_ret (v := .tuple #[.int .i64 0, .bool false, .int .i64 4]) (by simp [results, Tryd.results21, go_sem, *]) rfl ⟨rfl, hbr⟩
        · have j8 : ¬ ((8 : Int) < (ks.length : Int)) := by omega
          rw [if_neg h8] at hz
          have HZ1 := hid hz
          clear hz
          have h8' : ks.length ≤ 8 := by omega
          clear h8
          obtain ⟨wo, rfl⟩ : ∃ x, x = wr := ⟨_, rfl⟩
          go_wp2
          go_loopw [12] (fun v w4 => ∃ j : Nat, v = .int .i64 j ∧ j ≤ ks.length ∧ Hid ((ks.drop j).all mayB = AF) ∧ Below wo.heap.size wo w4) (fun v _ => ks.length - (RowKit.intOf v).toNat)
          case atStart => exact ⟨0, rfl, by omega, hid (by rw [List.drop_zero]; exact HA0.out), Below.refl _ _⟩
          case round =>
            obtain ⟨j, rfl, hj, HA, hb4'⟩ := hrel
            have hb4 := hbr.trans (hb4'.mono hsr)
            have hs4 := hb4.size
            have hs4' := hb4'.size
            by_cases hjl : j < ks.length
            · have j1 : (j : Int) < (ks.length : Int) := by omega
              obtain ⟨g2, o2, rfl, hg2, y0, y1⟩ := (H2.out.below (hb4.mono hB)).ky hjl
              have ha := HA.out
              rw [List.drop_eq_getElem_cons hjl, List.all_cons] at ha
              have lg2 : g2 < wr.heap.size := by omega
              have CM := rmay_any ⟨ks[j].nm.toArray⟩ ks[j].md wr (tabs_on hT hb4) (HNM.out _ (List.getElem_mem hjl))
              rw [show (⟨(ByteArray.mk ks[j].nm.toArray).data.toList, ks[j].md⟩ : Ky) = ks[j] by cases ks[j]; simp] at CM
              generalize mayB ks[j] = b at *
              generalize (⟨ks[j].nm.toArray⟩ : ByteArray) = nmj at *
              generalize ks[j].md = mdj at *
              cases b with
              | true =>
                rw [Bool.true_and] at ha
                have HA2 := hid ha
                clear ha HA
                go_wp2_with fail
                refine CM.mono ?_
                rintro e w6 ⟨rfl, hb6⟩
                have hB6 := hb4'.trans (hb6.mono hs4')
                clear CM hb6
                go_wp2
                go_roundw
                case rel => exact ⟨j + 1, by go_num, by omega, HA2, hB6⟩
                case measure => simp [RowKit.intOf]; omega
              | false =>
                rw [Bool.false_and] at ha
                subst ha
                have hz := HZ1.out
                rw [if_neg (by simp)] at hz
                subst hz
                clear HA
                go_wp2_with fail
                refine CM.mono ?_
                rintro e w6 ⟨rfl, hb6⟩
                have hB6 := hb4.trans (hb6.mono hs4)
                clear CM hb6
                go_wp2
                refine bodyPost_ret (v := .tuple #[.int .i64 0, .bool false, .int .i64 210]) (by simp [results, Tryd.results21, go_sem, *]) rfl ⟨rfl, hB6⟩
            · have j1 : ¬ ((j : Int) < (ks.length : Int)) := by omega
              have ha := HA.out
              rw [List.drop_of_length_le (by omega)] at ha
              have ha : true = AF := ha
              subst ha
              have hz := HZ1.out
              rw [if_pos rfl] at hz
              obtain ⟨w5, rfl⟩ : ∃ x, x = wr := ⟨_, rfl⟩
              have HC5 := hid (HC.out.on hb4')
              have HZ2 := hid hz
              clear hz HZ1 HA0 HA HC hb4'
              have hzl := HM1.out.1
              obtain ⟨n, hn⟩ : ∃ n, L.length = n := ⟨_, rfl⟩
              rw [hn] at HC5 hzl ⊢
              go_wp2
              go_loopw [13, 14, 15] (fun v13 v14 v15 wr => ∃ (j : Nat), v13 = .int .i64 (whichL ks j (L.drop j)) ∧ v14 = .bool (moreB ks (L.drop j)) ∧ v15 = .int .i64 ((j : Int) - 1) ∧ j ≤ n ∧ Below w5.heap.size w5 wr) (fun _ _ v15 _ => (RowKit.intOf v15 + 1).toNat)
              case atStart => exact ⟨n, by rw [List.drop_of_length_le (by omega)]; rfl, by rw [List.drop_of_length_le (by omega)]; rfl, rfl, Nat.le_refl _, Below.refl _ _⟩
              case round =>
                obtain ⟨j3, rfl, rfl, rfl, hj3, hbx⟩ := hrel
                have hsx := hbx.size
                by_cases hpos : 0 < j3
                · obtain ⟨j, rfl⟩ : ∃ j, j3 = j + 1 := ⟨j3 - 1, by omega⟩
                  have hjn : j < L.length := by omega
                  have hjz : j < Z.length := by omega
                  have e1 : (((j + 1 : Nat) : Int) - 1) = (j : Int) := by omega
                  rw [e1]
                  have hw := which_step ks j L[j] (L.drop (j + 1))
                  have hm := more_step ks L[j] (L.drop (j + 1))
                  rw [← List.drop_eq_getElem_cons hjn] at hw hm
                  have hcj : (chordL L[j]).1 = Z[j].l := by
                    have := HM1.out.2
                    have h2 : (Z.map (·.l))[j]? = (L.map fun l => (chordL l).1)[j]? := by rw [this]
                    rw [List.getElem?_map, List.getElem?_map, List.getElem?_eq_getElem hjz, List.getElem?_eq_getElem hjn] at h2
                    simpa using h2.symm
                  rw [hcj] at hw hm
                  have hHC := HC5.out.on hbx
                  have hat := hHC.at hjz
                  have hown5 := hHC.own
                  rw [hzl] at hown5
                  obtain ⟨g, o, hA, hgl, hx0⟩ := (At.of_own hown5) (by rw [List.length_map, hzl]; omega)
                  clear hown5
                  subst hA
                  have hx := hx0 j Z[j].v (by rw [List.getElem?_map, List.getElem?_eq_getElem hjz]; rfl)
                  replace hx : wr.cell? ⟨g, o + j, none⟩ = some (.slice Z[j].A Z[j].l.length Z[j].c) := hx
                  have hyl := chord_len L[j]
                  rw [hcj] at hyl
                  clear hx0
                  generalize Z[j] = y at *
                  obtain ⟨yA, yc, yl⟩ := y
                  simp only at hw hm hat hx hyl
                  obtain ⟨wv, hwv⟩ : ∃ x, whichL ks (j + 1) (L.drop (j + 1)) = x := ⟨_, rfl⟩
                  obtain ⟨mv, hmv⟩ : ∃ x, moreB ks (L.drop (j + 1)) = x := ⟨_, rfl⟩
                  rw [hwv] at hw ⊢
                  rw [hmv] at hm ⊢
                  have hxw := hb4.trans (hbx.mono (by omega))
                  have hk2 := (H2.out.below (hxw.mono hB))
                  have CS := starts_any wr.heap.size yA A2 yc c2 yl ks wr hat (hk2.mono (by omega)) (Nat.le_refl _) (by omega) l2
                  have CS2 := fun (W : World) (hb : Below wr.heap.size wr W) => starts_any wr.heap.size yA A2 yc c2 yl ks W (hat.below hb) ((hk2.mono (by omega : B ≤ wr.heap.size)).below hb) hb.size (by omega) l2
                  have hst := starts_com yl ks
                  have hss := @starts_same yl ks
                  have hsl := @starts_le yl ks
                  have lgg : g < wr.heap.size := by omega
                  have ij : (j : Int) < (n : Int) := by omega
                  obtain ⟨m, hm9⟩ : ∃ m, yl.length = m := ⟨_, rfl⟩
                  rw [hm9] at hx hsl CS CS2 hm hss
                  generalize startsB yl ks = st at *
                  have HAT := hid hat
                  have HK2 := hid hk2
                  clear hat hk2 hHC
                  cases st with
                  | false =>
                    have hc := of_decide_eq_false hst.symm
                    rw [if_neg (show ¬ yl = ks from fun h => hc (by rw [h]; exact com_self ks))] at hw
                    rw [decide_eq_false (fun h => hc h.1), Bool.false_or] at hm
                    have HW := hid hw
                    have HMO := hid hm
                    have HM9 := hid hm9
                    clear hw hm hc hst hss hsl hwv hmv hm9
                    go_wp2_with fail
                    with_reducible refine CS.mono ?_
                    rintro e w2 ⟨rfl, hb2⟩
                    have hx2 := hb2.cell (p := ⟨g, o + j, none⟩) lgg
                    rw [hx] at hx2
                    have C2 := CS2 w2 hb2
                    clear CS CS2
                    go_wp2_with fail
                    with_reducible refine C2.mono ?_
                    rintro e w3 ⟨rfl, hb3⟩
                    go_wp2
                    go_roundw
                    case rel => exact ⟨j, by rw [HW.out], by rw [HMO.out], by go_num, by omega, hbx.trans ((hb2.trans (hb3.mono hb2.size)).mono hsx)⟩
                    case measure => simp [RowKit.intOf]
                  | true =>
                    have hc := of_decide_eq_true hst.symm
                    have hsl := hsl rfl
                    by_cases heq : m = ks.length
                    · have k1 : ((m : Int) == (ks.length : Int)) = true := beq_iff_eq.2 (by omega)
                      have k2 : decide ((ks.length : Int) < (m : Int)) = false := decide_eq_false (by omega)
                      have k3 : (m == ks.length) = true := beq_iff_eq.2 heq
                      have k4 : decide (ks.length < m) = false := decide_eq_false (by omega)
                      rw [if_pos (hss rfl heq)] at hw
                      rw [decide_eq_false (fun h => by omega), Bool.false_or] at hm
                      have HW := hid hw
                      have HMO := hid hm
                      have HM9 := hid hm9
                      clear hw hm hc hst hss hsl hwv hmv hm9 heq
                      go_wp2_with fail
                      with_reducible refine CS.mono ?_
                      rintro e w2 ⟨rfl, hb2⟩
                      have hx2 := hb2.cell (p := ⟨g, o + j, none⟩) lgg
                      rw [hx] at hx2
                      have C2 := CS2 w2 hb2
                      clear CS CS2
                      go_wp2_with fail
                      with_reducible refine C2.mono ?_
                      rintro e w3 ⟨rfl, hb3⟩
                      have hb23 := hb2.trans (hb3.mono hb2.size)
                      have hx3 := hb23.cell (p := ⟨g, o + j, none⟩) lgg
                      rw [hx] at hx3
                      go_wp2
                      go_roundw
                      case rel => exact ⟨j, by rw [HW.out], by rw [HMO.out], by go_num, by omega, hbx.trans (hb23.mono hsx)⟩
                      case measure => simp [RowKit.intOf]
                    · have k1 : ((m : Int) == (ks.length : Int)) = false := beq_eq_false_iff_ne.2 (by omega)
                      have k2 : decide ((ks.length : Int) < (m : Int)) = true := decide_eq_true (by omega)
                      have k3 : (m == ks.length) = false := beq_eq_false_iff_ne.2 heq
                      have k4 : decide (ks.length < m) = true := decide_eq_true (by omega)
                      have hmv2 : (true : Bool) = moreB ks (L.drop j) := by
                        rw [hm, decide_eq_true ⟨hc, by omega⟩, Bool.true_or]
                      rw [if_neg (show ¬ yl = ks from fun h => by rw [h] at hm9; omega)] at hw
                      have HW := hid hw
                      have HMO := hid hmv2
                      have HM9 := hid hm9
                      clear hw hm hc hst hss hsl hwv hmv hm9 heq hmv2
                      go_wp2_with fail
                      with_reducible refine CS.mono ?_
                      rintro e w2 ⟨rfl, hb2⟩
                      have hx2 := hb2.cell (p := ⟨g, o + j, none⟩) lgg
                      rw [hx] at hx2
                      have C2 := CS2 w2 hb2
                      clear CS CS2
                      go_wp2_with fail
                      with_reducible refine C2.mono ?_
                      rintro e w3 ⟨rfl, hb3⟩
                      have hb23 := hb2.trans (hb3.mono hb2.size)
                      have hx3 := hb23.cell (p := ⟨g, o + j, none⟩) lgg
                      rw [hx] at hx3
                      go_wp2
                      go_roundw
                      case rel => exact ⟨j, by rw [HW.out], by rw [← HMO.out], by go_num, by omega, hbx.trans (hb23.mono hsx)⟩
                      case measure => simp [RowKit.intOf]
                · obtain rfl : j3 = 0 := by omega
                  have hz := HZ2.out
                  subst hz
                  go_wp2
                  refine bodyPost_ret (v := .tuple #[.int .i64 (whichL ks 0 L), .bool (moreB ks L), .int .i64 0]) (by simp [results, Tryd.results21, go_sem, *]) rfl ⟨rfl, hb4.trans (hbx.mono (by omega))⟩
end Go.Proofs.YtddigbhijfpmkaaDoor
