/- Layer 5: StyleOrders: the walk. (Printed by gen_lc.py.) -/
import Derived.Test.YtoiondgcjbdonaaDoorStY
import Derived.Test.YtoiondgcjbdonaaDoorBaseLex
namespace Go.Proofs.YtoiondgcjbdonaaDoor
set_option linter.unusedVariables false
set_option linter.unusedSimpArgs false
set_option maxRecDepth 100000
open Go.RowKit Go.Shelf Go.Lib Go.Sort

section
variable {ops : Array Oper} {rest : List Oper} {o : Oper} {a : Act} {Q : Exit → Act → World → Prop} {w : World}
theorem make_bools (hgd : o.guard = none) (l c : Operand) (ho : o.op = Op.makeSlice 48 l c) (base n : Nat) (hl : a.eval l = .int .i64 (n : Int)) (hc : a.eval c = .int .i64 (n : Int)) (hn : n ≤ 1000000) (hbase : base ≤ w.heap.size)
    (h : ∀ w', w'.ownsRow base 4 1 (.slice (some ⟨w.heap.size, 0, none⟩) n n) n (bools (List.replicate n false)) → w.grownBy w' none → wpList Tryd.prog ops Q rest (a.put o.dst (.slice (some ⟨w.heap.size, 0, none⟩) n n)) w') : wpList Tryd.prog ops Q (o :: rest) a w := by
  obtain ⟨i0, hi, hz0, hz1, hz2⟩ := info_parts info_bool
  refine wpList_make_full w hgd l c 48 ho base 4 i0 _ 1 Tryd.underlying48 hi hz0 hz1 .i64 .i64 _ _ n hl hc rfl rfl (by rw [hz2]; omega) (by unfold maxLen; omega) hbase (fun w' h4 h5 => ?_)
  refine h w' ?_ h5
  have e : (madeCells (Value.bool false).cells (n * 1)).toList = bools (List.replicate n false) := by
    rw [Nat.mul_one]
    simp [bools, Value.cells, toList_madeCells_one]
  rw [← e]
  exact h4
end
/-- Who has been met: the first k of a list. -/
def Met (o : List Nat) (k N : Nat) (M : List Bool) : Prop := M.length = N ∧ ∀ x, x < N → M[x]? = some (decide (x ∈ o.take k))
theorem Met.start (o : List Nat) (N : Nat) : Met o 0 N (List.replicate N false) := ⟨by simp, fun x hx => by rw [List.getElem?_replicate, if_pos hx]; simp⟩
theorem Met.next {o : List Nat} {k N : Nat} {M : List Bool} (h : Met o k N M) (hk : k < o.length) (ha : o[k] < N) : Met o (k + 1) N (M.set o[k] true) := by
  refine ⟨by simp [h.1], fun x hx => ?_⟩
  rw [List.take_succ_eq_append_getElem hk]
  by_cases e : x = o[k]
  · subst e
    rw [List.getElem?_set_self (by rw [h.1]; exact ha)]
    congr 1
    symm
    rw [decide_eq_true_iff]
    exact List.mem_append.2 (.inr (List.mem_singleton.2 rfl))
  · rw [List.getElem?_set_ne (fun h => e h.symm), h.2 x hx]
    congr 1
    rw [decide_eq_decide, List.mem_append, List.mem_singleton]
    constructor
    · exact .inl
    · rintro (h | h)
      · exact h
      · exact absurd h e
theorem Met.no {o : List Nat} {k N : Nat} {M : List Bool} (h : Met o k N M) (hnd : o.Nodup) (hk : k < o.length) (ha : o[k] < N) : M[o[k]]? = some false := by
  rw [h.2 _ ha]
  congr 1
  rw [decide_eq_false_iff_not]
  intro hm
  obtain ⟨i, hi, he⟩ := List.mem_iff_getElem.1 hm
  rw [List.length_take] at hi
  rw [List.getElem_take] at he
  rw [List.nodup_iff_pairwise_ne, List.pairwise_iff_getElem] at hnd
  exact hnd i k (by omega) hk (by omega) he
theorem ordN_nodup (L : List Ru) : (ordN L).Nodup := (List.mergeSort_perm (List.range L.length) (ordLe (keyAt L))).nodup_iff.2 List.nodup_range

section
variable (w : World) (hT : Tabs w) (A : Option Addr) (c : Nat) (L : List Ru) (hin : ∀ r ∈ L, r.In) (hA : At w.heap.size w A (rus L)) (hlc : L.length ≤ c) (hcm : c ≤ maxLen)
set_option linter.unusedSectionVars false
include hT hin hA hlc hcm
set_option maxHeartbeats 8000000
set_option maxRecDepth 100000
theorem orders_great (h : 100 < L.length) : Calls Tryd.prog 6 #[.slice A L.length c] w fun e w' => e = .returned (.bool true) ∧ Below w.heap.size w w' := by
  have CA := alive_any w hT
  have h1 : (100 : Int) < (L.length : Int) := by omega
  unfold maxLen at hcm
  clear hT hA hin h
  go_enter Tryd.func6, Tryd.ntmps6
  go_wp2_with (go_at_call 10; refine CA.mono ?_; rintro e w1 ⟨rfl, hb1⟩)
  go_ret
  exact ⟨rfl, hb1⟩
theorem orders_bad (h : L.length ≤ 100) (hc : chkE L ≠ 0) : Calls Tryd.prog 6 #[.slice A L.length c] w fun e w' => e = .returned (.bool true) ∧ Below w.heap.size w w' := by
  have CA := alive_any w hT
  have CO : Hid (∀ x, Below w.heap.size w x → Calls Tryd.prog 12 #[.slice A L.length c] x fun e w' => e = .returned (.tuple #[.slice none 0 0, .int .i64 (chkE L)]) ∧ Below x.heap.size x w') := hid fun x hb => Order_bad w.heap.size A c L hin x (tabs_on hT hb) (hA.below hb) hb.size (by omega) hc
  generalize chkE L = E at *
  have hz : (E != 0) = true := by simpa using hc
  have h1 : (L.length : Int) ≤ 100 := by omega
  unfold maxLen at hcm
  clear hT hA hin h hc
  go_enter Tryd.func6, Tryd.ntmps6
  go_wp2_with fail
  refine CA.mono ?_
  rintro e w1 ⟨rfl, hb1⟩
  have HB1 := hid hb1
  clear hb1 CA
  go_wp2_with fail
  refine (CO.out _ HB1.out).mono ?_
  rintro e w2 ⟨rfl, hb2⟩
  have HB2 := hid (HB1.out.trans (hb2.mono HB1.out.size))
  clear hb2
  go_wp2
  go_ret
  exact ⟨rfl, HB2.out⟩
theorem orders_ok (h : L.length ≤ 100) (hc : chkE L = 0) : Calls Tryd.prog 6 #[.slice A L.length c] w fun e w' => e = .returned (.bool true) ∧ Below w.heap.size w w' := by
  have CA := alive_any w hT
  have hst := ok_st (chk_ok hc).2
  have HR : Hid (∀ a, a < L.length → ∃ r : Ru, r.st ≤ 15 ∧ keyR r = keyAt L a ∧ ∀ x, Below w.heap.size w x → ∃ g o, A = some ⟨g, o, none⟩ ∧ g < w.heap.size ∧ x.cell? ⟨g, o + a * 14, none⟩ = some (.int .u8 (r.kind : Int)) ∧ x.cell? ⟨g, o + a * 14 + 1, none⟩ = some (.string r.cls) ∧ x.cell? ⟨g, o + a * 14 + 2, none⟩ = some (.int .u8 (r.st : Int)) ∧ x.cell? ⟨g, o + a * 14 + 3, none⟩ = some (.int .u8 (r.look.has : Int)) ∧ x.cell? ⟨g, o + a * 14 + 4, none⟩ = some (.int .u8 (r.look.col.r : Int)) ∧ x.cell? ⟨g, o + a * 14 + 5, none⟩ = some (.int .u8 (r.look.col.g : Int)) ∧ x.cell? ⟨g, o + a * 14 + 6, none⟩ = some (.int .u8 (r.look.col.b : Int)) ∧ x.cell? ⟨g, o + a * 14 + 7, none⟩ = some (.int .u8 (r.look.col.a : Int)) ∧ x.cell? ⟨g, o + a * 14 + 8, none⟩ = some (.int .u8 (r.look.bak.r : Int)) ∧ x.cell? ⟨g, o + a * 14 + 9, none⟩ = some (.int .u8 (r.look.bak.g : Int)) ∧ x.cell? ⟨g, o + a * 14 + 10, none⟩ = some (.int .u8 (r.look.bak.b : Int)) ∧ x.cell? ⟨g, o + a * 14 + 11, none⟩ = some (.int .u8 (r.look.bak.a : Int)) ∧ x.cell? ⟨g, o + a * 14 + 12, none⟩ = some (.bool r.look.brd) ∧ x.cell? ⟨g, o + a * 14 + 13, none⟩ = some (.int .i64 r.look.pad)) := hid fun a ha => ⟨L[a], hst _ (List.getElem_mem ha), (keyAt_get ha).symm, fun x hb => (hA.below hb).ru ha⟩
  have CO : Hid (∀ x, Below w.heap.size w x → Calls Tryd.prog 12 #[.slice A L.length c] x fun e w' => ∃ g, e = .returned (.tuple #[.slice (some ⟨g, 0, none⟩) L.length L.length, .int .i64 0]) ∧ w'.ownsRow x.heap.size 3 1 (.slice (some ⟨g, 0, none⟩) L.length L.length) L.length (ints ((ordN L).map Int.ofNat)) ∧ Below x.heap.size x w') := hid fun x hb => Order_ok w.heap.size A c L hin x (tabs_on hT hb) (hA.below hb) hb.size hc
  have hmem : ∀ i ∈ ordN L, i < L.length := ordN_mem
  have hnd := ordN_nodup L
  have hsrt : ∀ i j p q, i < j → (ordN L)[i]? = some p → (ordN L)[j]? = some q → Rk (keyAt L) p q := fun i j p q hij hp hq => by
    obtain ⟨h1, h2⟩ := List.getElem?_eq_some_iff.1 hp
    obtain ⟨h3, h4⟩ := List.getElem?_eq_some_iff.1 hq
    have hlen := ordN_len L
    have := ordL_srt (keyAt L) (n := L.length) hij (by omega)
    rw [← h2, ← h4]
    exact this
  have hol := ordN_len L
  generalize keyAt L = key at *
  generalize ordN L = o at *
  generalize L.length = N at *
  have HM := hid hmem
  have HD := hid hnd
  have HS := hid hsrt
  have HL := hid hol
  have h1 : (N : Int) ≤ 100 := by omega
  unfold maxLen at hcm
  clear hT hA hin hst hmem hnd hsrt hol
  go_enter Tryd.func6, Tryd.ntmps6
  go_wp2_with fail
  refine CA.mono ?_
  rintro e w1 ⟨rfl, hb1⟩
  have HB1 := hid hb1
  clear hb1 CA
  go_wp2_with fail
  refine (CO.out _ HB1.out).mono ?_
  rintro e w2 ⟨g, rfl, hown2, hb2⟩
  have hbw := HB1.out.trans (hb2.mono HB1.out.size)
  have HB2 := hid (And.intro hbw (own_mono hown2 HB1.out.size))
  clear hb2 hbw hown2
  go_wp2_with (first | (at_make; refine make_bools rfl (.tmp 30) (.tmp 30) rfl w.heap.size N rfl rfl ?_ ?_ ?_))
  · omega
  · exact HB2.out.1.size
  intro w3 hown3 hgr3
  have hb23 : Below w2.heap.size w2 w3 := (Below.refl _ _).grown hgr3 (Nat.le_refl _) (fun k hk => by cases hk)
  have hg2 : g < w2.heap.size := (HB2.out.2.lt g rfl).2
  have hX := And.intro (HB2.out.1.trans (hb23.mono HB2.out.1.size)) (And.intro (own_below' HB2.out.2 hb23) hown3)
  have HX := hid hX
  have hne : g ≠ w2.heap.size := by omega
  clear hgr3 hown3 hb23 hX hg2
  generalize w2.heap.size = tb at *
  go_wp2
  go_loopg [7] N (fun gh v7 wr => ∃ (k : Nat) (M : List Bool), v7 = .int .i64 k ∧ k ≤ N ∧ N - k ≤ gh ∧ Hid (Met o k N M) ∧ Hid (Below w.heap.size w wr ∧ wr.ownsRow w.heap.size 3 1 (.slice (some ⟨g, 0, none⟩) N N) N (ints (o.map Int.ofNat)) ∧ wr.ownsRow w.heap.size 4 1 (.slice (some ⟨tb, 0, none⟩) N N) N (bools M)))
  case atStart => exact ⟨0, _, rfl, by omega, by omega, hid (Met.start o N), HX⟩
  case round =>
    obtain ⟨k, M, rfl, hk, hgk, HMet, HI⟩ := hrel
    by_cases hlt : k < N
    · have hli : (k : Int) < (N : Int) := by omega
      have hlo : k < o.length := by rw [HL.out]; exact hlt
      have ha := HM.out _ (List.getElem_mem hlo)
      have hno := HMet.out.no HD.out hlo ha
      have hnx := hid (HMet.out.next hlo ha)
      have n0 := HI.out.2.1.cellAt k (by omega)
      rw [ints_at _ k (by simpa using hlo), List.getElem_map] at n0
      have t0 := HI.out.2.2.cellAt o[k] (by omega)
      have hM : (bools M)[o[k]]? = some (.bool false) := by unfold bools; rw [List.getElem?_map, hno]; rfl
      rw [hM] at t0
      have tf := HI.out.2.2.frozenAt o[k]
      have hst1 := own_store HI.out.2.2 o[k] (.bool true)
      rw [bools_set] at hst1
      have hso := own_off HI.out.2.1 (g := tb) (j := o[k]) (u := .bool true) (by intro e; cases e; exact hne rfl)
      have hsb := HI.out.1.setCell (p := ⟨tb, o[k], none⟩) (HI.out.2.2.lt tb rfl).1 (.bool true)
      have HW := hid (And.intro hsb (And.intro hso hst1))
      have hsort := hid (fun j p (hj : j < k) (hp : o[j]? = some p) => HS.out j k p _ hj hp (List.getElem?_eq_getElem hlo))
      clear hst1 hso hsb hno hM
      obtain ⟨rq, hq1, hq2, hqc⟩ := HR.out _ ha
      generalize hak : o[k] = a at *
      have HAK := hid hak
      clear hak
      have n0 : wr.cell? ⟨g, k, none⟩ = some (.int .i64 (a : Int)) := n0
      have hai : (a : Int) < (N : Int) := by omega
      have haz : ¬ ((a : Int) < 0) := by omega
      have haz2 : ¬ ((N : Int) ≤ (a : Int)) := by omega
      go_wp2
      clear n0 t0 tf
      have HW2 := HW
      generalize wr.setCell ⟨tb, a, none⟩ (.bool true) = ws at *
      obtain ⟨gq, oq, rfl, hgq, c0, c1, c2, c3, c4, c5, c6, c7, c8, c9, c10, c11, c12, c13⟩ := hqc ws HW2.out.1
      have s0 := HW2.out.1.size
      have n1 := HW2.out.2.1.cellAt k (by omega)
      rw [ints_at _ k (by simpa using hlo), List.getElem_map] at n1
      rw [HAK.out] at n1
      have n1 : ws.cell? ⟨g, k, none⟩ = some (.int .i64 (a : Int)) := n1
      have hgw := (HW2.out.2.1.lt g rfl).2
      have hgqw : gq < ws.heap.size := by omega
      have CQ := fun x => lweight_any rq hq1 x
      rcases Nat.eq_zero_or_pos k with hk0 | hk0
      · have hkz : ¬ ((0 : Int) < (k : Int)) := by omega
        have hkd : decide ((0 : Int) < (k : Int)) = false := no_dec hkz
        have hkd2 : decide (0 < k) = false := no_dec (by omega)
        have HK0 := hid hk0
        clear hk0 n1
        refine region_ext mixed (lexC_spec (by kernel_rfl)) ?_
        repeat (go_big_quiet_step (fail))
        refine wpQuiet_nil ?_
        intro w5 hb5
        go_wp2
        go_roundg (N - (k + 1))
        case measure => omega
        case rel => exact ⟨k + 1, _, by go_num, by omega, by omega, hnx, hid ⟨HW2.out.1.trans (hb5.mono s0), own_below' HW2.out.2.1 hb5, own_below' HW2.out.2.2 hb5⟩⟩
      · obtain ⟨j, rfl⟩ : ∃ j, k = j + 1 := ⟨k - 1, by omega⟩
        have hlj : j < o.length := by omega
        have hrk := hsort.out j _ (by omega) (List.getElem?_eq_getElem hlj)
        have hp := HM.out _ (List.getElem_mem hlj)
        have n2 := HW2.out.2.1.cellAt j (by omega)
        rw [ints_at _ j (by simpa using hlj), List.getElem_map] at n2
        obtain ⟨rp, hp1, hp2, hpc⟩ := HR.out _ hp
        generalize o[j] = b at *
        have n2 : ws.cell? ⟨g, j, none⟩ = some (.int .i64 (b : Int)) := n2
        obtain ⟨gp, op, hgo, hgp, d0, d1, d2, d3, d4, d5, d6, d7, d8, d9, d10, d11, d12, d13⟩ := hpc ws HW2.out.1
        cases hgo
        have CP := fun x => lweight_any rp hp1 x
        have hbi : (b : Int) < (N : Int) := by omega
        have hwr : IntKind.i64.wrap (((j + 1 : Nat) : Int) - 1) = (j : Int) := by rw [show ((j + 1 : Nat) : Int) - 1 = (j : Int) by omega]; exact IntWalk.i64_in _ (by omega)
        have hwr2 : ((j + 1 : Nat) : Int) - 1 = (j : Int) := by omega
        have hjz : (j : Int) < (N : Int) := by omega
        have hkz : (0 : Int) < ((j + 1 : Nat) : Int) := by omega
        unfold Rk at hrk
        rw [← hp2, ← hq2] at hrk
        generalize keyR rp = kp at *
        generalize keyR rq = kq at *
        have hle : kp ≤ kq := by omega
        have e1 : decide ((kq : Int) < (kp : Int)) = false := no_dec (by omega)
        have e2 : decide (kq < kp) = false := no_dec (by omega)
        by_cases heq : kp = kq
        · have hba : b < a := by omega
          have e3 : ((kp : Int) == (kq : Int)) = true := by simp; omega
          have e4 : decide ((a : Int) < (b : Int)) = false := no_dec (by omega)
          have e5 : decide (a < b) = false := no_dec (by omega)
          have HEQ := hid heq
          clear heq hrk hp2 hq2 hk0
          refine region_ext mixed (lexC_spec (by kernel_rfl)) ?_
          repeat (go_big_quiet_step (first | (go_at_call 26; with_reducible exact in_ext (CP _)) | (go_at_call 26; with_reducible exact in_ext (CQ _))))
          refine wpQuiet_nil ?_
          intro w5 hb5
          go_wp2
          go_roundg (N - (j + 1 + 1))
          case measure => omega
          case rel => exact ⟨j + 1 + 1, _, by go_num, by omega, by omega, hnx, hid ⟨HW2.out.1.trans (hb5.mono s0), own_below' HW2.out.2.1 hb5, own_below' HW2.out.2.2 hb5⟩⟩
        · have e3 : ((kp : Int) == (kq : Int)) = false := by simp; omega
          have HEQ := hid heq
          clear heq hrk hp2 hq2 hk0
          refine region_ext mixed (lexC_spec (by kernel_rfl)) ?_
          repeat (go_big_quiet_step (first | (go_at_call 26; with_reducible exact in_ext (CP _)) | (go_at_call 26; with_reducible exact in_ext (CQ _))))
          refine wpQuiet_nil ?_
          intro w5 hb5
          go_wp2
          go_roundg (N - (j + 1 + 1))
          case measure => omega
          case rel => exact ⟨j + 1 + 1, _, by go_num, by omega, by omega, hnx, hid ⟨HW2.out.1.trans (hb5.mono s0), own_below' HW2.out.2.1 hb5, own_below' HW2.out.2.2 hb5⟩⟩
    · have hli : ¬ ((k : Int) < (N : Int)) := by omega
      go_wp2
      go_ret
      exact ⟨rfl, HI.out.1⟩
theorem walkStyleOrders : Calls Tryd.prog 6 #[.slice A L.length c] w fun e w' => e = .returned (.bool true) ∧ Below w.heap.size w w' := by
  by_cases h : 100 < L.length
  · exact orders_great w hT A c L hin hA hlc hcm h
  · by_cases hc : chkE L = 0
    · exact orders_ok w hT A c L hin hA hlc hcm (by omega) hc
    · exact orders_bad w hT A c L hin hA hlc hcm (by omega) hc
end
end Go.Proofs.YtoiondgcjbdonaaDoor
