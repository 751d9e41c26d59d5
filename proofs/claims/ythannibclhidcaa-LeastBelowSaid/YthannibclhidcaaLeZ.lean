/- Layer 9: the law LeastLoop. -/
import Derived.Test.YthannibclhidcaaLeW
namespace Go.Proofs.Ythannibclhidcaa
set_option linter.unusedVariables false
set_option linter.unusedSimpArgs false
open Go.RowKit
attribute [local go_sem] max_fold min_fold

section
variable {ops : Array Oper} {rest : List Oper} {o : Oper} {a : Act} {Q : Exit → Act → World → Prop} {w : World}
theorem make_bools (hgd : o.guard = none) (l c : Operand) (ho : o.op = Op.makeSlice 52 l c) (base n : Nat) (hl : a.eval l = .int .i64 (n : Int)) (hc : a.eval c = .int .i64 (n : Int)) (hn : n ≤ 1000000) (hbase : base ≤ w.heap.size)
    (h : ∀ w', w'.ownsRow base 4 1 (.slice (some ⟨w.heap.size, 0, none⟩) n n) n (bools (List.replicate n false)) → w.grownBy w' none → wpList Try.prog ops Q rest (a.put o.dst (.slice (some ⟨w.heap.size, 0, none⟩) n n)) w') : wpList Try.prog ops Q (o :: rest) a w := by
  obtain ⟨i0, hi, hz0, hz1, hz2⟩ := info_parts info_bool
  refine wpList_make_full w hgd l c 52 ho base 4 i0 _ 1 Try.underlying52 hi hz0 hz1 .i64 .i64 _ _ n hl hc rfl rfl (by rw [hz2]; omega) (by unfold maxLen; omega) hbase (fun w' h4 h5 => ?_)
  refine h w' ?_ h5
  have e : (madeCells (Value.bool false).cells (n * 1)).toList = bools (List.replicate n false) := by
    rw [Nat.mul_one]
    simp [bools, Value.cells, toList_madeCells_one]
  rw [← e]
  exact h4
end
/-- A row of flags: which numbers were met. -/
structure Flags (n : Nat) (M : List Bool) (P : Nat → Prop) : Prop where
  len : M.length = n
  iff : ∀ v, v < n → (M.getD v false = true ↔ P v)
theorem Flags.start (n : Nat) : Flags n (List.replicate n false) fun _ => False := ⟨by simp, fun v hv => by simp [List.getD, hv]⟩
theorem Flags.set {n : Nat} {M : List Bool} {P : Nat → Prop} (h : Flags n M P) {k : Nat} (hk : k < n) {P' : Nat → Prop} (hP : ∀ v, v < n → (P' v ↔ P v ∨ v = k)) : Flags n (M.set k true) P' := by
  refine ⟨by simpa using h.len, fun v hv => ?_⟩
  rw [hP v hv]
  have hl := h.len
  by_cases e : v = k
  · subst e
    simp [List.getD, show v < M.length by omega]
  · have : (M.set k true).getD v false = M.getD v false := by
      simp only [List.getD, List.getElem?_set]
      rw [if_neg (fun e2 => e e2.symm)]
    rw [this, h.iff v hv]
    simp [e]
theorem cell_flag {w : World} {base n c g : Nat} {M : List Bool} (h : w.ownsRow base 4 1 (.slice (some ⟨g, 0, none⟩) n c) n (bools M)) (hM : M.length = n) {k : Nat} (hk : k < n) : w.cell? ⟨g, k, none⟩ = some (.bool (M.getD k false)) := by
  rw [h.cellAt k (by omega), bools_at M k (by omega)]
  simp [List.getD, show k < M.length by omega]
theorem sumF_bd {f : Nat → Int} {n : Nat} (h : ∀ i, i < n → -1048576 ≤ f i ∧ f i ≤ 1048576) : ∀ i, i ≤ n → -(1048576 * (i : Int)) ≤ sumF f i ∧ sumF f i ≤ 1048576 * (i : Int) := by
  intro i
  induction i with
  | zero => intro _; simp [sumF]
  | succ i ih =>
    intro hi
    have h1 := ih (by omega)
    have h2 := h i (by omega)
    simp only [sumF]
    omega
theorem tmod_next {i p : Nat} : Int.tmod ((i : Int) + 1) (p : Int) = (((i + 1) % p : Nat) : Int) := by
  rw [show (i : Int) + 1 = ((i + 1 : Nat) : Int) by omega]
  rfl

set_option maxRecDepth 100000 in
set_option maxHeartbeats 8000000 in
theorem walkLeastLoop (w : World) (n : Int) (hx : (Lit.int .i64 n).wf = true) (A : Option Addr) (c : Nat) (L : List T3) (hA : At w.heap.size w A (t3s L)) (hnil : A = none → L.length = 0 ∧ c = 0) (hlc : L.length ≤ c) (hcm : c ≤ maxLen) :
    Calls Try.prog 11 #[.int .i64 n, .slice A L.length c] w fun e w' => e = .returned (.bool true) ∧ Below w.heap.size w w' := by
  have hlen : L.length ≤ 9223372036854775807 := by unfold maxLen at hcm; omega
  by_cases hbig : 200 < n
  · go_enter Try.func11, Try.ntmps11
    go_wp2_with fail
    refine (awake_any _).mono ?_
    rintro e w1 ⟨rfl, hb1⟩
    go_wp2
    go_ret
    exact ⟨rfl, hb1⟩
  · by_cases hbig2 : 400 < L.length
    · have hb2 : (400 : Int) < (L.length : Int) := by omega
      clear hbig2
      go_enter Try.func11, Try.ntmps11
      go_wp2_with fail
      refine (awake_any _).mono ?_
      rintro e w1 ⟨rfl, hb1⟩
      go_wp2
      go_ret
      exact ⟨rfl, hb1⟩
    · have hb2 : ¬ (400 : Int) < (L.length : Int) := by omega
      have hl4 : L.length ≤ 400 := by omega
      obtain ⟨R, E, hR⟩ := loop_ex n L
      have hsay := loop_says hR
      have HSV := Go.Lib.hid fun (B : Nat) (A : Option Addr) (c : Nat) (w : World) h1 h2 => Solve_any B A c n L w h1 h2 (by omega)
      have HLO := Go.Lib.hid fun (B : Nat) (A : Option Addr) (c : Nat) (w : World) h1 h2 => Loop_any B A c n L R E w h1 h2 (by omega) hR
      generalize solveR n L = S at *
      generalize solveE n L = F at *
      clear hR hbig2 hlen hlc hcm hnil hx
      rcases hsay with ⟨hE, rfl, rfl⟩ | ⟨rfl, rfl, rfl⟩ | ⟨rfl, rfl, m, rfl, hL, hlm, h9⟩
      · have hne : (E != 0) = true := by simpa using hE
        go_enter Try.func11, Try.ntmps11
        go_wp2_with fail
        refine (awake_any _).mono ?_
        rintro e w1 ⟨rfl, hb1⟩
        go_wp2_with fail
        refine (HSV.out _ _ _ _ (hA.ext hb1) hb1.size).mono ?_
        rintro e w2 ⟨As, cs, rfl, _, hb2⟩
        have hb12 := hb1.trans (hb2.mono hb1.size)
        go_wp2_with fail
        refine (HLO.out _ _ _ _ (hA.ext hb12) hb12.size).mono ?_
        rintro e w3 ⟨Ar, cr, rfl, _, hb3⟩
        go_wp2
        go_ret
        exact ⟨rfl, hb12.trans (hb3.mono hb12.size)⟩
      · go_enter Try.func11, Try.ntmps11
        go_wp2_with fail
        refine (awake_any _).mono ?_
        rintro e w1 ⟨rfl, hb1⟩
        go_wp2_with fail
        refine (HSV.out _ _ _ _ (hA.ext hb1) hb1.size).mono ?_
        rintro e w2 ⟨As, cs, rfl, _, hb2⟩
        have hb12 := hb1.trans (hb2.mono hb1.size)
        go_wp2_with fail
        refine (HLO.out _ _ _ _ (hA.ext hb12) hb12.size).mono ?_
        rintro e w3 ⟨Ar, cr, rfl, _, hb3⟩
        go_wp2
        go_ret
        exact ⟨rfl, hb12.trans (hb3.mono hb12.size)⟩
      · obtain ⟨p, hp⟩ : ∃ p, R.length = p := ⟨_, rfl⟩
        have hp0 := h9.pos
        have hpm := h9.le
        have h9s := h9.sum
        have hsb : ∀ i, i < p → -1048576 ≤ (bk L (R.getD i 0).toNat).r ∧ (bk L (R.getD i 0).toNat).r ≤ 1048576 := fun i hi => by
          obtain ⟨j, e, hj, _⟩ := h9.nat i (by omega)
          rw [e]
          exact (hL j hj).2.2
        rw [hp] at hp0 hpm h9s
        have HSB := Go.Lib.hid fun i hi => sumF_bd hsb i hi
        have HNA := Go.Lib.hid fun i (hi : i < p) => h9.nat i (by omega)
        have HNE : Hid (∀ i, i < p → qn L (R.getD i 0).toNat = pn L (R.getD ((i + 1) % p) 0).toNat) := Go.Lib.hid fun i hi => by
          have := h9.next i (by omega)
          rwa [hp] at this
        have HIN := Go.Lib.hid fun i j hij (hj : j < p) => h9.inj i j hij (by omega)
        have H9S := Go.Lib.hid h9s
        have HO := Go.Lib.hid hL
        have hpn1 : ¬ (m : Int) < (p : Int) := by omega
        have hp1 : ((p : Int) == 0) = false := by rw [beq_eq_false_iff_ne]; omega
        rw [show (IntsE R 0) = fun W e w' => ∃ A c, e = .returned (.tuple #[.slice A p c, .int .i64 0]) ∧ w'.ownsRow W.heap.size 3 1 (.slice A p c) p (ints R) ∧ Below W.heap.size W w' from by
          funext W e w'
          unfold IntsE
          rw [hp]] at HLO
        clear h9 h9s hsb hL
        have HP := Go.Lib.hid hp
        clear hp
        obtain ⟨len, hlen⟩ : ∃ len, L.length = len := ⟨_, rfl⟩
        have HM := Go.Lib.hid hlen
        rw [hlen] at HSV HLO hb2 hl4 ⊢
        clear hlen hlm
        go_enter Try.func11, Try.ntmps11
        go_wp2_with fail
        refine (awake_any _).mono ?_
        rintro e w1 ⟨rfl, hb1⟩
        go_wp2_with fail
        refine (HSV.out _ _ _ _ (hA.ext hb1) hb1.size).mono ?_
        rintro e w2 ⟨As, cs, rfl, _, hb2'⟩
        have hb12 := hb1.trans (hb2'.mono hb1.size)
        go_wp2_with fail
        refine (HLO.out _ _ _ _ (hA.ext hb12) hb12.size).mono ?_
        rintro e w3 ⟨Ar, cr, rfl, hor, hb3⟩
        have hb123 := hb12.trans (hb3.mono hb12.size)
        have hs3 := hb123.size
        obtain ⟨gr, rfl, hgr1, hgr2, hcr⟩ := cell_row hor HP.out hp0
        have HCR := Go.Lib.hid hcr
        have HA3 := Go.Lib.hid (hA.ext hb123)
        have HB3 := Go.Lib.hid hb123
        clear hor hcr hA hb1 hb2' hb12 hb3 hb123 HSV HLO
        go_wp2_with (first | (at_make; refine make_bools rfl (.tmp 65) (.tmp 65) rfl w3.heap.size m rfl rfl (by omega) (Nat.le_refl _) ?_))
        intro w4 hown4 hgr4
        have hb4 : Below w3.heap.size w3 w4 := (Below.refl _ _).grown hgr4 (Nat.le_refl _) (fun k hk => by cases hk)
        have HM4 : Hid (∃ M, Flags m M (fun v => ∃ a, a < 0 ∧ pn L (R.getD a 0).toNat = v) ∧ w4.ownsRow w3.heap.size 4 1 (.slice (some ⟨w3.heap.size, 0, none⟩) m m) m (bools M)) := Go.Lib.hid ⟨_, ⟨by simp, fun v hv => by simp [List.getD, hv]⟩, hown4⟩
        have HB4 := Go.Lib.hid hb4
        clear hown4 hgr4 hb4
        go_wp2
        generalize hf : (fun i : Nat => (bk L (R.getD i 0).toNat).r) = f at *
        have HF : Hid (∀ i, f i = (bk L (R.getD i 0).toNat).r) := Go.Lib.hid fun i => by rw [← hf]
        clear hf
        generalize hgm : w3.heap.size = gm at *
        have HGM := Go.Lib.hid hgm
        clear hgm
        go_loopw [10, 12] (fun s_ i_ wr => ∃ i : Nat, i ≤ p ∧ i_ = .int .i64 i ∧ s_ = .int .i64 (sumF f i) ∧ Hid (∃ M, Flags m M (fun v => ∃ a, a < i ∧ pn L (R.getD a 0).toNat = v) ∧ wr.ownsRow gm 4 1 (.slice (some ⟨gm, 0, none⟩) m m) m (bools M)) ∧ Hid (Below gm w3 wr)) (fun _ i_ _ => p - (intOf i_).toNat)
        case atStart => exact ⟨0, by omega, rfl, rfl, HM4, HB4⟩
        case round =>
          clear HM4 HB4
          obtain ⟨i, hi, rfl, rfl, HMB, HBR⟩ := hrel
          by_cases hlt : i < p
          · have hli : (i : Int) < (p : Int) := by omega
            obtain ⟨j, ej, hj, hj0⟩ := HNA.out i hlt
            obtain ⟨j0, e0, hj0', _⟩ := HNA.out 0 hp0
            have hq : (i + 1) % p < p := Nat.mod_lt _ (by omega)
            obtain ⟨jn, en, hjn, _⟩ := HNA.out ((i + 1) % p) hq
            have hne := HNE.out i hlt
            rw [ej, en] at hne
            simp only [Int.toNat_natCast] at hne
            have hbr : Below w3.heap.size w3 wr := by rw [HGM.out]; exact HBR.out
            have y1 := HCR.out i hlt
            have y0 := HCR.out 0 hp0
            have yn := HCR.out _ hq
            rw [ej] at y1
            rw [e0] at y0
            rw [en] at yn
            obtain ⟨g, o, hAe, hg, c0, c1, c2⟩ := HA3.out.t3 hj
            obtain ⟨g', o', hAe', hg', d0, d1, d2⟩ := HA3.out.t3 hjn
            rw [hAe] at hAe'
            injection hAe' with hAe'
            injection hAe' with z1 z2
            subst z1 z2
            subst hAe
            rw [← bk_at hj] at c0 c1 c2
            rw [← bk_at hjn] at d0
            obtain ⟨q1, q2, q3, q4⟩ := okB_pq HO.out hj
            obtain ⟨r1, r2, r3, r4⟩ := okB_pq HO.out hjn
            rw [← q3] at c0
            rw [← q4] at c1
            rw [← r3, ← hne] at d0
            have hsum : sumF f (i + 1) = sumF f i + (bk L j).r := by
              show sumF f i + f i = _
              rw [HF.out, ej]
              rfl
            have hfar := (HO.out j hj).2.2
            obtain ⟨M, hFl, hOw⟩ := HMB.out
            have hno : M.getD (pn L j) false = false := by
              rw [Bool.eq_false_iff]
              intro h
              obtain ⟨a, ha, e⟩ := (hFl.iff _ q1).1 h
              refine HIN.out a i ha hlt ?_
              rw [e, ej]
              rfl
            have hnx : Flags m (M.set (pn L j) true) (fun v => ∃ a, a < i + 1 ∧ pn L (R.getD a 0).toNat = v) := hFl.set q1 fun v _ => by
              constructor
              · rintro ⟨a, ha, e⟩
                by_cases h : a = i
                · right
                  rw [← e, h, ej]
                  rfl
                · exact .inl ⟨a, by omega, e⟩
              · rintro (⟨a, ha, e⟩ | e)
                · exact ⟨a, by omega, e⟩
                · exact ⟨i, by omega, by rw [e, ej]; rfl⟩
            have hbd := HSB.out i hi
            have hjl : j < len := by have := HM.out; omega
            have hjnl : jn < len := by have := HM.out; omega
            have HML := Go.Lib.hid hFl.len
            have HNO := Go.Lib.hid hno
            have HNX := Go.Lib.hid hnx
            have HSUM := Go.Lib.hid hsum
            have HOW := Go.Lib.hid hOw
            have HBW := Go.Lib.hid hbr
            have HY1 := Go.Lib.hid y1
            have HYN := Go.Lib.hid yn
            have HC0 := Go.Lib.hid c0
            have HC1 := Go.Lib.hid c1
            have HC2 := Go.Lib.hid c2
            have HD0 := Go.Lib.hid d0
            have x1 := cell_on hbr y1
            have x0 := cell_on hbr y0
            have lx := World.block_lt_of_cell? _ _ x1
            have htm := tmod_next (i := i) (p := p)
            rw [e0] at hj0
            clear hj hjn ej e0 en hj0' hne hbr y1 y0 yn hg hg' c0 c1 c2 d0 d1 d2 q2 q3 q4 r1 r2 r3 r4 hsum hFl hno hnx hOw HMB HBR
            generalize pn L j = P at *
            generalize qn L j = Q at *
            generalize (bk L j).r = r at *
            generalize (i + 1) % p = iq at *
            generalize sumF f i = sm at *
            have g1 : decide ((j : Int) < (j0 : Int)) = false := decide_eq_false (by omega)
            have g2 : decide ((len : Int) ≤ (j : Int)) = false := decide_eq_false (by omega)
            have g3 : decide ((j : Int) < 0) = false := decide_eq_false (by omega)
            have g1' : decide (j < j0) = false := decide_eq_false (by omega)
            have g2' : decide (len ≤ j) = false := decide_eq_false (by omega)
            have hpz : ¬ (p : Int) = 0 := by omega
            go_wp2
            refine region_ext mixed (by kernel_rfl) ?_
            repeat (go_big_quiet_step (fail))
            refine wpQuiet_nil ?_
            intro w5 hb5
            have hbw5 := HBW.out.trans (hb5.mono HBW.out.size)
            have HOW5 := Go.Lib.hid (own_below' HOW.out hb5)
            have xn := cell_on hbw5 HYN.out
            have x1' := cell_on hbw5 HY1.out
            have k0 := cell_on hbw5 HC0.out
            have k1 := cell_on hbw5 HC1.out
            have k2 := cell_on hbw5 HC2.out
            have lx1 := World.block_lt_of_cell? _ _ xn
            have lx2 := World.block_lt_of_cell? _ _ k0
            have HB5 := Go.Lib.hid hbw5
            have g4 : ¬ (jn : Int) < 0 := by omega
            have g5 : ¬ (len : Int) ≤ (jn : Int) := by omega
            clear x1 x0 lx hb5 hbw5 HOW HBW g1 g2 g3 g1' g2'
            go_wp2
            generalize hwx : World.alloc _ _ = wx
            have hbk : wx.heap[w5.heap.size]? = some (.cells #[.int .i64 P, .int .i64 Q, .int .i64 r] 54 (0, 0)) := by rw [← hwx]; exact alloc_at _ _
            have ha5 : Below w5.heap.size w5 wx := hwx ▸ (Below.refl _ _).alloc (Nat.le_refl _) _
            have HOWX := Go.Lib.hid (own_below' HOW5.out ha5)
            have hbwx := HB5.out.trans (ha5.mono HB5.out.size)
            have hbb : gm < w5.heap.size := (HOW5.out.lt gm rfl).2
            clear hwx ha5 xn x1' k0 k1 k2 lx1 lx2 HOW5
            generalize w5.heap.size = bb at *
            have k0 := blk_cell hbk 0
            have k1 := blk_cell hbk 1
            simp at k0 k1
            have d0 := cell_on hbwx HD0.out
            have m0 := cell_flag HOWX.out HML.out q1
            rw [HNO.out] at m0
            have lb := blk_lt2 hbk
            have lm := (HOWX.out.lt gm rfl).2
            have ld := World.block_lt_of_cell? _ _ d0
            refine region_ext mixed (by kernel_rfl) ?_
            repeat (go_big_quiet_step (fail))
            refine wpQuiet_nil ?_
            intro w6 hb6
            have hbk6 := (hb6.block _ lb).trans hbk
            have HOW6 := Go.Lib.hid (own_below' HOWX.out hb6)
            have HB6 := Go.Lib.hid (hbwx.trans (hb6.mono hbwx.size))
            clear k0 k1 d0 m0 lb lm ld hbk hb6 hbwx HOWX HB5
            have k0 := blk_cell hbk6 0
            have k2 := blk_cell hbk6 2
            simp at k0 k2
            have m0 := cell_flag HOW6.out HML.out q1
            rw [HNO.out] at m0
            have f0 := HOW6.out.frozenAt P
            have hbne : ¬ bb = gm := by omega
            have hst := own_store HOW6.out P (.bool true)
            rw [bools_set] at hst
            have HST := Go.Lib.hid hst
            have hbs := (show Below gm w3 w6 by rw [← HGM.out]; exact HB6.out).setCell (p := ⟨gm, P, none⟩) (Nat.le_refl _) (.bool true)
            have HBS := Go.Lib.hid hbs
            clear hbk6 hst hbs HOW6
            go_wp2
            go_roundw
            case rel => exact ⟨i + 1, by omega, by go_num, by rw [HSUM.out], Go.Lib.hid ⟨_, HNX.out, HST.out⟩, HBS⟩
            case measure => simp [intOf]; omega
          · have hlt' : ¬ ((i : Int) < (p : Int)) := by omega
            have hip : i = p := by omega
            subst hip
            have hpos := H9S.out
            generalize sumF f i = sm at *
            go_wp2
            go_ret
            exact ⟨rfl, HB3.out.trans ((show Below w3.heap.size w3 wr by rw [HGM.out]; exact HBR.out).mono (by have := HGM.out; omega))⟩
end Go.Proofs.Ythannibclhidcaa
