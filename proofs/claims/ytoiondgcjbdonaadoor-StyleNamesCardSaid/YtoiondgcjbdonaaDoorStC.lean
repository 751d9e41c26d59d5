/- Layer 5: the walks of sort.stable_func and sort.SliceStable over a row of numbers: the stable order, at every length. -/
import Derived.Test.YtoiondgcjbdonaaDoorStB
import Derived.Shelf.GgSortMore.Stable
import Derived.Shelf.Lay
import Derived.Ground.GgtProg
namespace Go.Proofs.YtoiondgcjbdonaaDoor
set_option linter.unusedVariables false
set_option linter.unusedSimpArgs false
set_option maxRecDepth 100000
open Go.RowKit Go.Shelf Go.Lib Go.Sort
variable {nn : Nat} {g : Nat} {lb : Array Value} {sf : Nat} {sb : Array Value} {key : Nat → Nat} {blk off : Nat} {d d' : Array Nat} {W W' W'' : World}

def Tryd.sl8_ren : Go.Shelf.Ren := ⟨fun | 8 => 35 | 13 => 49 | 14 => 50 | 16 => 52 | 15 => 51 | 29 => 68 | 30 => 69 | 42 => 74 | 49 => 82 | n => n, fun | 20 => 20 | 26 => 55 | 36 => 73 | 0 => 0 | 38 => 75 | 42 => 79 | 3 => 3 | 4 => 4 | 47 => 88 | 17 => 17 | 33 => 70 | 34 => 71 | 89 => 117 | 12 => 12 | 56 => 101 | 82 => 110 | 5 => 5 | 83 => 111 | 84 => 112 | 85 => 113 | 86 => 114 | 87 => 115 | n => n, fun | n => n⟩
theorem Tryd.sl8 : Go.Proofs.LaysGt.n8 Tryd.prog Tryd.sl8_ren := {
  mixed := by kernel_rfl
  f8 := Tryd.func35.trans (congrArg some (by kernel_rfl))
  f13 := Tryd.func49.trans (congrArg some (by kernel_rfl))
  f14 := Tryd.func50.trans (congrArg some (by kernel_rfl))
  f15 := Tryd.func51.trans (congrArg some (by kernel_rfl))
  f16 := Tryd.func52.trans (congrArg some (by kernel_rfl))
  f29 := Tryd.func68.trans (congrArg some (by kernel_rfl))
  f30 := Tryd.func69.trans (congrArg some (by kernel_rfl))
  f42 := Tryd.func74.trans (congrArg some (by kernel_rfl))
  f49 := Tryd.func82.trans (congrArg some (by kernel_rfl))
  t0 := Tryd.underlying0
  a0 := Tryd.isAgg0
  z0 := Tryd.sizeOf0
  v0 := Tryd.zeroValue0
  i0 := by kernel_rfl
  t3 := Tryd.underlying3
  a3 := Tryd.isAgg3
  z3 := Tryd.sizeOf3
  v3 := Tryd.zeroValue3
  i3 := by kernel_rfl
  t4 := Tryd.underlying4
  a4 := Tryd.isAgg4
  z4 := Tryd.sizeOf4
  v4 := Tryd.zeroValue4
  i4 := by kernel_rfl
  t5 := Tryd.underlying5
  a5 := Tryd.isAgg5
  z5 := Tryd.sizeOf5
  v5 := Tryd.zeroValue5
  i5 := by kernel_rfl
  t12 := Tryd.underlying12
  a12 := Tryd.isAgg12
  z12 := Tryd.sizeOf12
  v12 := Tryd.zeroValue12
  i12 := by kernel_rfl
  t17 := Tryd.underlying17
  a17 := Tryd.isAgg17
  z17 := Tryd.sizeOf17
  v17 := Tryd.zeroValue17
  i17 := by kernel_rfl
  t20 := Tryd.underlying20
  a20 := Tryd.isAgg20
  z20 := Tryd.sizeOf20
  v20 := Tryd.zeroValue20
  i20 := by kernel_rfl
  t26 := Tryd.underlying55
  a26 := Tryd.isAgg55
  z26 := Tryd.sizeOf55
  v26 := Tryd.zeroValue55
  i26 := by kernel_rfl
  t33 := Tryd.underlying70
  a33 := Tryd.isAgg70
  z33 := Tryd.sizeOf70
  v33 := Tryd.zeroValue70
  i33 := by kernel_rfl
  t34 := Tryd.underlying71
  a34 := Tryd.isAgg71
  z34 := Tryd.sizeOf71
  v34 := Tryd.zeroValue71
  i34 := by kernel_rfl
  t36 := Tryd.underlying73
  a36 := Tryd.isAgg73
  z36 := Tryd.sizeOf73
  v36 := Tryd.zeroValue73
  i36 := by kernel_rfl
  t38 := Tryd.underlying75
  a38 := Tryd.isAgg75
  z38 := Tryd.sizeOf75
  v38 := Tryd.zeroValue75
  i38 := by kernel_rfl
  t42 := Tryd.underlying79
  a42 := Tryd.isAgg79
  z42 := Tryd.sizeOf79
  v42 := Tryd.zeroValue79
  i42 := by kernel_rfl
  t47 := Tryd.underlying88
  a47 := Tryd.isAgg88
  z47 := Tryd.sizeOf88
  v47 := Tryd.zeroValue88
  i47 := by kernel_rfl
  t56 := Tryd.underlying101
  a56 := Tryd.isAgg101
  z56 := Tryd.sizeOf101
  v56 := Tryd.zeroValue101
  i56 := by kernel_rfl
  t82 := Tryd.underlying110
  a82 := Tryd.isAgg110
  z82 := Tryd.sizeOf110
  v82 := Tryd.zeroValue110
  i82 := by kernel_rfl
  t83 := Tryd.underlying111
  a83 := Tryd.isAgg111
  z83 := Tryd.sizeOf111
  v83 := Tryd.zeroValue111
  i83 := by kernel_rfl
  t84 := Tryd.underlying112
  a84 := Tryd.isAgg112
  z84 := Tryd.sizeOf112
  v84 := Tryd.zeroValue112
  i84 := by kernel_rfl
  t85 := Tryd.underlying113
  a85 := Tryd.isAgg113
  z85 := Tryd.sizeOf113
  v85 := Tryd.zeroValue113
  i85 := by kernel_rfl
  t86 := Tryd.underlying114
  a86 := Tryd.isAgg114
  z86 := Tryd.sizeOf114
  v86 := Tryd.zeroValue114
  i86 := by kernel_rfl
  t87 := Tryd.underlying115
  a87 := Tryd.isAgg115
  z87 := Tryd.sizeOf115
  v87 := Tryd.zeroValue115
  i87 := by kernel_rfl
  t89 := Tryd.underlying117
  a89 := Tryd.isAgg117
  z89 := Tryd.sizeOf117
  v89 := Tryd.zeroValue117
  i89 := by kernel_rfl }

set_option maxHeartbeats 2000000 in
set_option maxRecDepth 100000 in
theorem insertion_any (F : Fam nn g lb sf sb key blk off d W) (a b : Nat) (hab : a ≤ b) (hb : b ≤ d.size) :
    Calls Tryd.prog 68 #[.agg #[.func (.func g) #[] lb, .func (.func sf) #[] sb], .int .i64 a, .int .i64 b] W fun e w' => e = .returned (.tuple #[]) ∧ SW (encN nn) W blk off (insertionSort (lk key) d a b) w' := by
  have F1 := F.box (.cells #[.func (.func g) #[] lb, .func (.func sf) #[] sb] 79)
  have S1 := F.sw.alloc (.cells #[.func (.func g) #[] lb, .func (.func sf) #[] sb] 79)
  have F0 := F.lt
  have hsz := F.sz
  have eg := F.eg
  have A : Hid _ := hid (⟨fun x wx hs h => F1.on h hs, F1.lt, S1, F.lt⟩ : (∀ (x : Array Nat) (wx : World), x.size = d.size → SW (encN nn) (W.alloc (.cells #[.func (.func g) #[] lb, .func (.func sf) #[] sb] 79)) blk off x wx → Fam nn g lb sf sb key blk off x wx) ∧ _ ∧ _ ∧ _)
  have S0 : Hid _ := hid F1.sw
  clear F F1 S1
  go_enter Tryd.func68, Tryd.ntmps68
  go_wp2
  go_loopg [6] (b + 1) (fun k vi wr => ∃ (i : Nat) (dk : Array Nat), vi = .int .i64 i ∧ a < i ∧ i ≤ b + 1 ∧ b + 1 - i ≤ k ∧ Hid (dk.size = d.size ∧ insOuter (lk key) a b i dk = insOuter (lk key) a b (a + 1) d ∧ SW (encN nn) (W.alloc (.cells #[.func (.func g) #[] lb, .func (.func sf) #[] sb] 79)) blk off dk wr))
  case atStart => exact ⟨a + 1, d, by go_num, by omega, by omega, by omega, hid ⟨rfl, rfl, S0.out⟩⟩
  case round =>
    obtain ⟨i, dk, rfl, hai, hib, hk, H⟩ := hrel
    by_cases hlt : i < b
    · have hz : (i : Int) < (b : Int) := by omega
      go_wp2
      go_loopg [7] (i + 1) (fun k vj wx => ∃ (j : Nat) (dj : Array Nat), vj = .int .i64 j ∧ a ≤ j ∧ j ≤ i ∧ j ≤ k ∧ Hid (dj.size = d.size ∧ insInner (lk key) a j dj = insInner (lk key) a i dk ∧ SW (encN nn) (W.alloc (.cells #[.func (.func g) #[] lb, .func (.func sf) #[] sb] 79)) blk off dj wx))
      case atStart => exact ⟨i, dk, rfl, by omega, by omega, by omega, hid ⟨H.out.1, rfl, H.out.2.2⟩⟩
      case round =>
        obtain ⟨j, dj, rfl, haj, hji, hk, K⟩ := hrel
        have hbx := sw_box F0 K.out.2.2
        have c0 := hbx.1
        have c1 := hbx.2
        clear hbx
        by_cases hja : a < j
        · have hz2 : (a : Int) < (j : Int) := by omega
          have Fk := A.out.1 dj wr K.out.1 K.out.2.2
          have hl := Fk.ask (i := j) (j := j - 1) (by rw [K.out.1]; omega) (by rw [K.out.1]; omega)
          rw [show ((j - 1 : Nat) : Int) = (j : Int) - 1 by omega] at hl
          clear Fk
          cases hv : lk key dj[j]! dj[j - 1]! with
          | true =>
            rw [hv] at hl
            go_wp2_with (go_at_fn g; refine hl.mono ?_; rintro e w1 ⟨rfl, hw1⟩; have hwN := sw_trans A.out.2.1 K.out.2.2 hw1 rfl; have hby := sw_box F0 hwN; have e0 := hby.1; have e1 := hby.2)
            have hx := (A.out.1 dj w1 K.out.1 hwN).swap (i := j) (j := j - 1) (by rw [K.out.1]; omega) (by rw [K.out.1]; omega)
            have hn := hwN.swap A.out.2.1 j (j - 1) (by rw [K.out.1]; omega) (by rw [K.out.1]; omega)
            rw [show ((j - 1 : Nat) : Int) = (j : Int) - 1 by omega] at hx
            have HN : Hid _ := hid hn
            clear hn hwN hby hw1
            rw [hx, Oper.upon_value]
            go_wp2
            go_roundg (j - 1)
            case measure => omega
            case rel => exact ⟨j - 1, _, by go_num, by omega, by omega, by omega, hid ⟨by rw [size_swp]; exact K.out.1, by rw [← K.out.2.1, insInner_go (lk key) a j dj hja hv], HN.out⟩⟩
          | false =>
            rw [hv] at hl
            go_wp2_with (go_at_fn g; refine hl.mono ?_; rintro e w1 ⟨rfl, hw1⟩)
            go_roundg (b + 1 - (i + 1))
            case measure => omega
            case rel => exact ⟨i + 1, dj, by go_num, by omega, by omega, by omega, hid ⟨K.out.1, by rw [← H.out.2.1, insOuter_go _ _ _ _ _ hlt, ← K.out.2.1, insInner_stop _ _ _ _ (Or.inr hv)], sw_trans A.out.2.1 K.out.2.2 hw1 rfl⟩⟩
        · have hz2 : ¬ (a : Int) < (j : Int) := by omega
          go_wp2
          go_roundg (b + 1 - (i + 1))
          case measure => omega
          case rel => exact ⟨i + 1, dj, by go_num, by omega, by omega, by omega, hid ⟨K.out.1, by rw [← H.out.2.1, insOuter_go _ _ _ _ _ hlt, ← K.out.2.1, insInner_stop _ _ _ _ (Or.inl (by omega))], K.out.2.2⟩⟩
    · have hz : ¬ (i : Int) < (b : Int) := by omega
      go_wp2
      go_end0
      refine ⟨rfl, ?_⟩
      unfold insertionSort
      rw [← H.out.2.1, insOuter_stop _ _ _ _ _ hlt]
      exact sw_trans A.out.2.2.2 A.out.2.2.1 H.out.2.2 H.out.1

theorem Pre.blocks {a n bs : Nat} (h : Pre key d bs a) (hk : Ok key d a n) (h1 : a ≤ n) (h2 : n ≤ a + bs) (hb : 0 < bs) : Cov key d bs n 0 := by
  refine h.cov h1 ?_ hb
  rcases Nat.lt_or_ge a n with g | g
  · exact .step g (by rw [Nat.min_eq_right h2]; exact hk) (.done h2)
  · exact .done g

set_option maxHeartbeats 4000000 in
set_option maxRecDepth 100000 in
theorem stable_any (F : Fam nn g lb sf sb key blk off d W) (n : Nat) (hn : n = d.size) (hid0 : ∀ q, q < n → d[q]! = q) (h60 : n < 1000000000000000000) :
    Calls Tryd.prog 51 #[.agg #[.func (.func g) #[] lb, .func (.func sf) #[] sb], .int .i64 n] W fun e w' =>
      e = .returned (.tuple #[]) ∧ ∃ d', d'.size = d.size ∧ Ok key d' 0 n ∧ SW (encN nn) W blk off d' w' := by
  have F1 := F.box (.cells #[.func (.func g) #[] lb, .func (.func sf) #[] sb] 79)
  have S1 := F.sw.alloc (.cells #[.func (.func g) #[] lb, .func (.func sf) #[] sb] 79)
  have F0 := F.lt
  have A : Hid _ := hid (⟨fun x wx hs h => F1.on h hs, F1.lt, S1, F.lt, fun q => hid0 q⟩ : (∀ (x : Array Nat) (wx : World), x.size = d.size → SW (encN nn) (W.alloc (.cells #[.func (.func g) #[] lb, .func (.func sf) #[] sb] 79)) blk off x wx → Fam nn g lb sf sb key blk off x wx) ∧ _ ∧ _ ∧ _ ∧ (∀ q, q < n → d[q]! = q))
  have S0 : Hid _ := hid F1.sw
  have HN : Hid (n = d.size) := hid hn
  clear F F1 S1 hid0 hn
  go_enter Tryd.func51, Tryd.ntmps51
  go_wp2
  go_loopg [5, 6] (n + 1) (fun k va vb wr => ∃ (a : Nat) (dk : Array Nat), va = .int .i64 a ∧ vb = .int .i64 ((a : Int) + 20) ∧ a ≤ n ∧ n + 1 - a ≤ k ∧ Hid (dk.size = d.size ∧ Pre key dk 20 a ∧ (∀ q, a ≤ q → q < n → dk[q]! = q) ∧ SW (encN nn) (W.alloc (.cells #[.func (.func g) #[] lb, .func (.func sf) #[] sb] 79)) blk off dk wr))
  case atStart => exact ⟨0, d, rfl, rfl, by omega, by omega, hid ⟨rfl, .zero, fun q _ h => A.out.2.2.2.2 q h, S0.out⟩⟩
  case round =>
    obtain ⟨a, dk, rfl, rfl, han, hk, H⟩ := hrel
    have hbx := sw_box F0 H.out.2.2.2
    have c0 := hbx.1
    have c1 := hbx.2
    clear hbx
    by_cases hlt : a + 20 ≤ n
    · have hz : (a : Int) + 20 ≤ (n : Int) := by omega
      have hc := insertion_any (A.out.1 dk wr H.out.1 H.out.2.2.2) a (a + 20) (by omega) (by rw [H.out.1, ← HN.out]; omega)
      rw [show ((a + 20 : Nat) : Int) = (a : Int) + 20 by omega] at hc
      go_wp2_with (go_at_call 68; refine hc.mono ?_; rintro e w1 ⟨rfl, hw1⟩)
      go_roundg (n + 1 - (a + 20))
      case measure => omega
      case rel =>
        have hb := ins_block (key := key) (a := a) (b := a + 20) (d := dk) (by omega) (by rw [H.out.1, ← HN.out]; omega) (fun q g1 g2 => H.out.2.2.1 q g1 (by omega))
        exact ⟨a + 20, _, by go_num, by go_num, by omega, by omega, hid ⟨by rw [hb.1, H.out.1], (H.out.2.1.out hb.2.1 (Nat.le_refl _)).step hb.2.2, fun q g1 g2 => by rw [hb.2.1 q (.inr g1)]; exact H.out.2.2.1 q (by omega) g2, sw_trans A.out.2.1 H.out.2.2.2 hw1 hb.1⟩⟩
    · have hz : ¬ (a : Int) + 20 ≤ (n : Int) := by omega
      have hc := insertion_any (A.out.1 dk wr H.out.1 H.out.2.2.2) a n (by omega) (by rw [H.out.1, ← HN.out]; omega)
      have hb := ins_block (key := key) (a := a) (b := n) (d := dk) (by omega) (by rw [H.out.1, ← HN.out]; omega) (fun q g1 g2 => H.out.2.2.1 q g1 g2)
      have hcov : Cov key (insertionSort (lk key) dk a n) 20 n 0 := Pre.blocks (H.out.2.1.out hb.2.1 (Nat.le_refl _)) hb.2.2 han (by omega) (by omega)
      have B : Hid _ := hid (⟨hb.1.trans H.out.1, hcov, fun w1 hw1 => sw_trans A.out.2.1 H.out.2.2.2 hw1 hb.1⟩ : _ ∧ _ ∧ ∀ w1, SW (encN nn) wr blk off (insertionSort (lk key) dk a n) w1 → SW (encN nn) (W.alloc (.cells #[.func (.func g) #[] lb, .func (.func sf) #[] sb] 79)) blk off (insertionSort (lk key) dk a n) w1)
      clear hb hcov
      generalize insertionSort (lk key) dk a n = dn at hc B
      go_wp2_with (go_at_call 68; refine hc.mono ?_; rintro e w1 ⟨rfl, hw1⟩)
      go_loopg [4, 5, 6, 7] n (fun k v4 v5 v6 v7 wr => ∃ (bs : Nat) (dk : Array Nat), v4 = .int .i64 bs ∧ 0 < bs ∧ bs < 2000000000000000000 ∧ n - bs ≤ k ∧ Hid (dk.size = d.size ∧ Cov key dk bs n 0 ∧ SW (encN nn) (W.alloc (.cells #[.func (.func g) #[] lb, .func (.func sf) #[] sb] 79)) blk off dk wr))
      case atStart => exact ⟨20, dn, rfl, by omega, by omega, by omega, hid ⟨B.out.1, B.out.2.1, B.out.2.2 _ hw1⟩⟩
      case round =>
        clear c0 c1 hw1 hc
        obtain ⟨bs, dk, rfl, hb0, hbm, hk, H⟩ := hrel
        by_cases hbn : bs < n
        · have hz : (bs : Int) < (n : Int) := by omega
          go_wp2
          go_loopg [5, 6] (n + 1) (fun k va vb wr => ∃ (a : Nat) (dk : Array Nat), va = .int .i64 a ∧ vb = .int .i64 ((a : Int) + 2 * bs) ∧ a ≤ n ∧ n + 1 - a ≤ k ∧ Hid (dk.size = d.size ∧ Pre key dk (2 * bs) a ∧ Cov key dk bs n a ∧ SW (encN nn) (W.alloc (.cells #[.func (.func g) #[] lb, .func (.func sf) #[] sb] 79)) blk off dk wr))
          case atStart => exact ⟨0, dk, rfl, by go_num, by omega, by omega, hid ⟨H.out.1, .zero, H.out.2.1, H.out.2.2⟩⟩
          case round =>
            obtain ⟨a, dk, rfl, rfl, han, hk, H⟩ := hrel
            have hbx := sw_box F0 H.out.2.2.2
            have c0 := hbx.1
            have c1 := hbx.2
            clear hbx
            by_cases hlt2 : a + 2 * bs ≤ n
            · have hz2 : (a : Int) + 2 * (bs : Int) ≤ (n : Int) := by omega
              obtain ⟨tw, nx⟩ := H.out.2.2.1.pair hlt2 hb0 (by rw [H.out.1, ← HN.out]; omega)
              have hc := sym_any _ a (a + bs) (a + 2 * bs) dk wr (Nat.le_refl _) (A.out.1 dk wr H.out.1 H.out.2.2.2) tw (by omega) (by omega)
              unfold SymIs at hc
              rw [show ((a + bs : Nat) : Int) = (a : Int) + bs by omega, show ((a + 2 * bs : Nat) : Int) = (a : Int) + 2 * bs by omega] at hc
              have NX : Hid _ := hid nx
              clear tw nx
              go_wp2_with (go_at_call 69; refine hc.mono ?_; rintro e w1 ⟨rfl, dn, hm, hw1⟩)
              go_roundg (n + 1 - (a + 2 * bs))
              case measure => omega
              case rel =>
                obtain ⟨o1, o2⟩ := NX.out dn hm
                exact ⟨a + 2 * bs, dn, by go_num, by go_num, by omega, by omega, hid ⟨by rw [hm.size, H.out.1], (H.out.2.1.out hm.out (Nat.le_refl _)).step o1, o2, sw_trans A.out.2.1 H.out.2.2.2 hw1 hm.size⟩⟩
            · have hz2 : ¬ (a : Int) + 2 * (bs : Int) ≤ (n : Int) := by omega
              by_cases hmn : a + bs < n
              · have hz3 : (a : Int) + (bs : Int) < (n : Int) := by omega
                obtain ⟨tw, nx⟩ : Two key dk a (a + bs) n ∧ ∀ x, Mrg key dk x a n → Cov key x (2 * bs) n a := by
                  obtain ⟨k1, q1⟩ := H.out.2.2.1.head (by omega)
                  obtain ⟨k2, _⟩ := q1.head hmn
                  rw [Nat.min_eq_left (by omega)] at k1
                  rw [Nat.min_eq_right (by omega)] at k2
                  exact ⟨k1.two k2 (by omega) (by omega) (by rw [H.out.1, ← HN.out]; omega), fun x r => H.out.2.2.1.last_two hmn (by omega) r⟩
                have hc := sym_any _ a (a + bs) n dk wr (Nat.le_refl _) (A.out.1 dk wr H.out.1 H.out.2.2.2) tw (by omega) (by omega)
                unfold SymIs at hc
                rw [show ((a + bs : Nat) : Int) = (a : Int) + bs by omega] at hc
                have NX : Hid _ := hid nx
                clear tw nx
                go_wp2_with (go_at_call 69; refine hc.mono ?_; rintro e w1 ⟨rfl, dn, hm, hw1⟩)
                go_roundg (n - 2 * bs)
                case measure => omega
                case rel => exact ⟨2 * bs, dn, by go_num, by omega, by omega, by omega, hid ⟨by rw [hm.size, H.out.1], (H.out.2.1.out hm.out (Nat.le_refl _)).cov han (NX.out dn hm) (by omega), sw_trans A.out.2.1 H.out.2.2.2 hw1 hm.size⟩⟩
              · have hz3 : ¬ (a : Int) + (bs : Int) < (n : Int) := by omega
                go_wp2
                go_roundg (n - 2 * bs)
                case measure => omega
                case rel => exact ⟨2 * bs, dk, by go_num, by omega, by omega, by omega, hid ⟨H.out.1, H.out.2.1.cov han (H.out.2.2.1.last_one (by omega)) (by omega), H.out.2.2.2⟩⟩
        · have hz : ¬ (bs : Int) < (n : Int) := by omega
          go_wp2
          go_end0
          exact ⟨rfl, dk, H.out.1, H.out.2.1.all (by omega), sw_trans A.out.2.2.2.1 A.out.2.2.1 H.out.2.2 H.out.1⟩

noncomputable def siT : TypeInfo := (Tryd.prog.info? 25).get (by kernel_rfl)
noncomputable def siE : TypeInfo := (Tryd.prog.info? 3).get (by kernel_rfl)
theorem siK (n : Nat) (h2 : 2 ≤ n) : Lib.swapperK n siE 2 = 5 := by
  have a : siE.hasPointers = false := by kernel_rfl
  have b : siE.bytes = 8 := by kernel_rfl
  have c : (n == 0) = false := by simp; omega
  have d : (n == 1) = false := by simp; omega
  simp [Lib.swapperK, a, b, c, d]

/-- sort.SliceStable at two numbers or more that lie in order of their places. -/
theorem sorts_any (eg : ∀ args w, (callFunc g args).run Tryd.prog w = .ok (.enter g args) w) (hless : LessLays nn g lb key blk off d.size W) (hH : Holds (encN nn) W blk off d) (hblk : blk < W.heap.size)
    (h2 : 2 ≤ d.size) (h60 : d.size < 1000000000000000000) (hid0 : ∀ q, q < d.size → d[q]! = q) (c : Nat) :
    Calls Tryd.prog 35 #[.iface 25 (.slice (some ⟨blk, off, none⟩) d.size c), .func (.func g) #[] lb] W fun e w' =>
      e = .returned (.tuple #[]) ∧ ∃ d', d'.size = d.size ∧ Ok key d' 0 d.size ∧ SW (encN nn) W blk off d' w' := by
  refine Any.sort_SliceStable_of_stable Tryd.sl8 25 3 siT siE (by kernel_rfl) (by kernel_rfl) (by kernel_rfl) (by kernel_rfl) 2 (fun _ => by kernel_rfl) (some ⟨blk, off, none⟩) d.size c (by omega)
    63 (by rw [siK _ h2]; kernel_rfl) (.func g) #[] lb W _ ?_
  have hB : sliceBound Tryd.prog 3 siE 2 (some ⟨blk, off, none⟩) d.size c = #[.slice (some ⟨blk, off, none⟩) d.size c, typeHandle Tryd.prog 3] := by
    unfold sliceBound; rw [if_neg (swapperK_gt _ _ _ h2)]
  rw [hB]
  have S : SW (encN nn) W blk off d (stableWorld Tryd.prog Tryd.sl8_ren 25 (some ⟨blk, off, none⟩) d.size c W) := by
    unfold stableWorld
    exact ((SW.start hH).alloc _).alloc _
  have F : Fam nn g lb 63 #[.slice (some ⟨blk, off, none⟩) d.size c, typeHandle Tryd.prog 3] key blk off d (stableWorld Tryd.prog Tryd.sl8_ren 25 (some ⟨blk, off, none⟩) d.size c W) :=
    { eg := eg
      less := sw_lays S hless hblk rfl
      swp := swapSwaps_of_literal true _ (fun args W => run_callFunc_extern Tryd.func63 (by kernel_rfl) (by kernel_rfl) (by kernel_rfl) (e := Extern.ReflectliteSwapper.swap true) (by kernel_rfl) args W)
        3 siE (by kernel_rfl) (by kernel_rfl) (fun _ => by kernel_rfl) (encN nn) (fun _ => rfl) blk off d.size c
      holds := S.holds hblk hH rfl
      lt := S.lt hblk
      sz := by omega }
  exact (stable_any F d.size rfl hid0 h60).mono fun e w' ⟨he, d', hs, ho, hw⟩ => ⟨he, d', hs, ho, sw_trans hblk S hw hs⟩
end Go.Proofs.YtoiondgcjbdonaaDoor
