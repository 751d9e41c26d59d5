/- Layer 10: the law FlexFair. -/
import Derived.Test.YthannibclhidcaaFlexL
import Derived.Test.YthannibclhidcaaShFair3
import Derived.Deep.CutRange
namespace Go.Proofs.Ythannibclhidcaa
set_option linter.unusedVariables false
set_option linter.unusedSimpArgs false
open Go.RowKit
attribute [local go_sem] max_fold min_fold

structure Tr (w : World) (g o k : Nat) (t : T3) : Prop where
  p : w.cell? ⟨g, o + k * 3, none⟩ = some (.int .i64 t.p)
  q : w.cell? ⟨g, o + k * 3 + 1, none⟩ = some (.int .i64 t.q)
  r : w.cell? ⟨g, o + k * 3 + 2, none⟩ = some (.int .i64 t.r)
  lt : g < w.heap.size
theorem Tr.on {w w' : World} {g o k : Nat} {t : T3} (h : Tr w g o k t) (hb : Below w.heap.size w w') : Tr w' g o k t :=
  ⟨by rw [hb.cell (p := ⟨g, o + k * 3, none⟩) h.lt]; exact h.p, by rw [hb.cell (p := ⟨g, o + k * 3 + 1, none⟩) h.lt]; exact h.q, by rw [hb.cell (p := ⟨g, o + k * 3 + 2, none⟩) h.lt]; exact h.r, Nat.lt_of_lt_of_le h.lt hb.size⟩
structure Nr (w : World) (g o k : Nat) (s : Int) : Prop where
  v : w.cell? ⟨g, o + k, none⟩ = some (.int .i64 s)
  lt : g < w.heap.size
theorem Nr.on {w w' : World} {g o k : Nat} {s : Int} (h : Nr w g o k s) (hb : Below w.heap.size w w') : Nr w' g o k s :=
  ⟨by rw [hb.cell (p := ⟨g, o + k, none⟩) h.lt]; exact h.v, Nat.lt_of_lt_of_le h.lt hb.size⟩
theorem At.tr {w : World} {g o : Nat} {L : List T3} (h : At w.heap.size w (some ⟨g, o, none⟩) (t3s L)) {k : Nat} (hk : k < L.length) : Tr w g o k L[k] := by
  obtain ⟨g', o', e, hg, a, b, c⟩ := h.t3 hk
  injection e with e
  injection e with e1 e2
  subst e1
  subst e2
  exact ⟨a, b, c, hg⟩
theorem At.nr {w : World} {g o : Nat} {L : List Int} (h : At w.heap.size w (some ⟨g, o, none⟩) (ints L)) {k : Nat} (hk : k < L.length) : Nr w g o k L[k] := by
  obtain ⟨g', o', e, hg, a⟩ := h.int hk
  injection e with e
  injection e with e1 e2
  subst e1
  subst e2
  exact ⟨a, hg⟩
theorem sum_bd {S : List Int} {n : Nat} (h : ∀ o ∈ S, 0 ≤ o ∧ o ≤ 1000000000) (hn : S.length ≤ n) : 0 ≤ sumI S ∧ sumI S ≤ n * 1000000000 := by
  have : 0 ≤ sumI S ∧ sumI S ≤ S.length * 1000000000 := by
    clear hn
    induction S with
    | nil => simp [sumI]
    | cons x S ih =>
      have h1 := ih fun o ho => h o (by simp [ho])
      have h2 := h x (by simp)
      simp only [sumI, List.length_cons]
      omega
  omega
theorem take_bd {S : List Int} (h : ∀ o ∈ S, 0 ≤ o ∧ o ≤ 1000000000) (hn : S.length ≤ 1024) (k : Nat) : 0 ≤ sumI (S.take k) ∧ sumI (S.take k) ≤ 1024000000000 := by
  have := sum_bd (S := S.take k) (n := 1024) (fun o ho => h o (List.mem_of_mem_take ho)) (by rw [List.length_take]; omega)
  omega
theorem sum_take (S : List Int) (k : Nat) (h : k < S.length) : sumI (S.take (k + 1)) = sumI (S.take k) + S[k] := by
  rw [List.take_succ_eq_append_getElem h, sumI_append]
  simp [sumI]
theorem prod_bd {a b : Int} (ha : -2 ≤ a ∧ a ≤ 1000000001) (hb : 0 ≤ b ∧ b ≤ 16384) : -32768 ≤ a * b ∧ a * b ≤ 16384000016384 := by
  constructor
  · have : (-2) * b ≤ a * b := Int.mul_le_mul_of_nonneg_right ha.1 hb.1
    omega
  · have : a * b ≤ 1000000001 * b := Int.mul_le_mul_of_nonneg_right ha.2 hb.1
    omega
theorem At.t3head {B : Nat} {w : World} {A : Option Addr} {L : List T3} (h : At B w A (t3s L)) {k : Nat} (hk : k < L.length) : ∃ g o, A = some ⟨g, o, none⟩ := by
  obtain ⟨g, o, e, _⟩ := h.t3 hk
  exact ⟨g, o, e⟩
theorem At.inthead {B : Nat} {w : World} {A : Option Addr} {L : List Int} (h : At B w A (ints L)) {k : Nat} (hk : k < L.length) : ∃ g o, A = some ⟨g, o, none⟩ := by
  obtain ⟨g, o, e, _⟩ := h.int hk
  exact ⟨g, o, e⟩
/-- What the rounds over tracks need of the shares. -/
structure FairAt (L : List T3) (S : List Int) : Prop where
  one : ∀ i (h : i < L.length) (h' : i < S.length), (0 ≤ S[i] ∧ S[i] ≤ 1000000000) ∧ L[i].p ≤ S[i] ∧ (L[i].r = 0 → S[i] = L[i].p) ∧ (L[i].q ≠ 0 → S[i] ≤ L[i].q) ∧ (0 ≤ L[i].p ∧ L[i].p ≤ 16384) ∧ (0 ≤ L[i].q ∧ L[i].q ≤ 16384) ∧ (0 ≤ L[i].r ∧ L[i].r ≤ 16384)
  two : ∀ i k (h : i < L.length) (h' : i < S.length) (h2 : k < L.length) (h2' : k < S.length), L[i].p < S[i] → 0 < L[k].r → (L[k].q = 0 ∨ S[k] < L[k].q) → (S[i] - L[i].p - 1) * L[k].r < (S[k] - L[k].p + 1) * L[i].r
theorem Fair.at {L : List T3} {room : Int} {S : List Int} (h : Fair L room S) (hm : ∀ t ∈ L, mayT t = true) (hs : ∀ o ∈ S, 0 ≤ o ∧ o ≤ 1000000000) : FairAt L S := by
  have hg : ∀ i (h : i < S.length), S.getD i 0 = S[i] := fun i h => by simp [List.getD, h]
  constructor
  · intro i hi hi'
    have h1 := h.low i hi
    have h2 := h.zero i hi
    have h3 := h.top i hi
    have h4 := track_bd hm hi
    rw [tk_at hi, hg i hi'] at h1 h2 h3
    exact ⟨hs _ (List.getElem_mem hi'), h1, h2, h3, h4⟩
  · intro i k hi hi' hk hk' hx hr hq
    have := h.fair i k hi hk
    rw [tk_at hi, tk_at hk, hg i hi', hg k hk'] at this
    exact this hx hr hq

set_option maxRecDepth 100000 in
set_option maxHeartbeats 8000000 in
theorem fair_no (w : World) (A : Option Addr) (c : Nat) (L : List T3) (hA : At w.heap.size w A (t3s L)) (hb : ¬ (300 : Int) < (L.length : Int)) (room : Int) (he : ¬ shareE L room = 0) :
    Calls Try.prog 6 #[.slice A L.length c, .int .i64 room] w fun e w' => e = .returned (.bool true) ∧ Below w.heap.size w w' := by
  have hshare := fun w h1 h2 => Share_any (w.heap.size) A c L room w h1 h2 (by omega)
  have hneed := fun w h1 h2 => need_any (w.heap.size) A c L w h1 h2 (by omega)
  have hmost := fun w h1 h2 => most_any (w.heap.size) A c L w h1 h2 (by omega)
  rw [show shareR L room = [] by simp [shareR, he]] at hshare
  have HSHARE := Go.Lib.hid hshare
  have HNEED := Go.Lib.hid hneed
  have HMOST := Go.Lib.hid hmost
  have hne : (shareE L room != 0) = true := by simpa using he
  clear hshare hneed hmost he
  generalize shareE L room = E at *
  generalize needR L = NE at *
  generalize mostR L = MO at *
  generalize chk L = CH at *
  go_enter Try.func6, Try.ntmps6
  go_wp2_with fail
  refine (alive_any _).mono ?_
  rintro e w1 ⟨rfl, hb1⟩
  have hA1 := hA.on hb1
  go_wp2_with fail
  refine (HSHARE.out _ hA1 (Nat.le_refl _)).mono ?_
  rintro e w2 ⟨X, cX, rfl, _, hb2⟩
  have hA2 := hA1.on hb2
  have hb02 := belowOn hb1 hb2
  go_wp2_with fail
  refine (HNEED.out _ hA2 (Nat.le_refl _)).mono ?_
  rintro e w3 ⟨rfl, hb3⟩
  have hA3 := hA2.on hb3
  have hb03 := belowOn hb02 hb3
  go_wp2_with fail
  refine (HMOST.out _ hA3 (Nat.le_refl _)).mono ?_
  rintro e w4 ⟨rfl, hb4⟩
  have hb04 := belowOn hb03 hb4
  go_wp2
  go_ret
  exact ⟨rfl, hb04⟩

set_option maxRecDepth 100000 in
set_option maxHeartbeats 8000000 in
theorem fair_any (w : World) (A : Option Addr) (c : Nat) (L : List T3) (hA : At w.heap.size w A (t3s L)) (n : Nat) (HN : Hid (L.length = n)) (hb : ¬ (300 : Int) < (n : Int)) (room need most : Int) (S : List Int) (HSL : Hid (S.length = L.length))
    (HSHARE : Hid (∀ w, At w.heap.size w A (t3s L) → w.heap.size ≤ w.heap.size → Calls Try.prog 20 #[.slice A n c, .int .i64 room] w (IntsE S 0 w)))
    (HNEED : Hid (∀ w, At w.heap.size w A (t3s L) → w.heap.size ≤ w.heap.size → Calls Try.prog 22 #[.slice A n c] w fun e w' => e = .returned (.tuple #[.int .i64 need, .int .i64 0]) ∧ Below w.heap.size w w'))
    (HMOST : Hid (∀ w, At w.heap.size w A (t3s L) → w.heap.size ≤ w.heap.size → Calls Try.prog 24 #[.slice A n c] w fun e w' => e = .returned (.tuple #[.int .i64 most, .int .i64 0]) ∧ Below w.heap.size w w'))
    (hn0 : 0 ≤ need ∧ need ≤ 1000000000) (hm0 : most = -1) (hr0 : 0 ≤ room ∧ room ≤ 32768)
    (HF : Hid (FairAt L S)) (HB : Hid (∀ k, 0 ≤ sumI (S.take k) ∧ sumI (S.take k) ≤ 1024000000000)) (HS : Hid (sumI S = if 0 ≤ most then min (max need room) most else max need room)) :
    Calls Try.prog 6 #[.slice A n c, .int .i64 room] w fun e w' => e = .returned (.bool true) ∧ Below w.heap.size w w' := by
  go_enter Try.func6, Try.ntmps6
  go_wp2_with fail
  refine (alive_any _).mono ?_
  rintro e w1 ⟨rfl, hb1⟩
  have hA1 := hA.on hb1
  go_wp2_with fail
  refine (HSHARE.out _ hA1 (Nat.le_refl _)).mono ?_
  rintro e w2 ⟨X, cX, rfl, hown, hb2⟩
  have hA2 := hA1.on hb2
  have hX2 := At.of_own hown
  rw [HSL.out, HN.out] at hown ⊢
  have hb02 := belowOn hb1 hb2
  clear hown hb1 hb2 hA1 hA HSHARE
  go_wp2_with fail
  refine (HNEED.out _ hA2 (Nat.le_refl _)).mono ?_
  rintro e w3 ⟨rfl, hb3⟩
  have hA3 := hA2.on hb3
  have hX3 := hX2.on hb3
  have hb03 := belowOn hb02 hb3
  clear hb02 hb3 hA2 hX2
  go_wp2_with fail
  refine (HMOST.out _ hA3 (Nat.le_refl _)).mono ?_
  rintro e w4 ⟨rfl, hb4⟩
  have hA4 := hA3.on hb4
  have hX4 := hX3.on hb4
  have hb04 := belowOn hb03 hb4
  clear hb03 hb4 hA3 hX3 HNEED HMOST
  have e0 : wrap64 0 = 0 := IntWalk.wrap64_in _ (by omega)
  subst hm0
  go_wp2
  go_loopw [12, 13] (fun sm i wr => ∃ k : Nat, k ≤ n ∧ i = .int .i64 k ∧ sm = .int .i64 (sumI (S.take k)) ∧ Below w4.heap.size w4 wr) (fun _ i _ => n - (intOf i).toNat)
  case atStart => exact ⟨0, by omega, rfl, by simp [sumI], Below.refl _ _⟩
  case round =>
    obtain ⟨k, hk, rfl, rfl, hbr⟩ := hrel
    have hAr := hA4.on hbr
    have hXr := hX4.on hbr
    have hb0r := belowOn hb04 hbr
    have hsk := HB.out k
    by_cases hlt : k < n
    · have hli : (k : Int) < (n : Int) := by omega
      have hkL : k < L.length := by have := HN.out; omega
      have hkS : k < S.length := by have := HN.out; have := HSL.out; omega
      obtain ⟨g0, o0, rfl⟩ := hAr.t3head hkL
      obtain ⟨g1, o1, rfl⟩ := hXr.inthead hkS
      have T := hAr.tr hkL
      have N := hXr.nr hkS
      obtain ⟨hsb, hlow, hzero, htop, hpb, hqb, hrb⟩ := HF.out.one k hkL hkS
      have HNX := Go.Lib.hid (sum_take S k hkS)
      have HTWO : Hid (∀ j (h2 : j < L.length) (h2' : j < S.length), L[k].p < S[k] → 0 < L[j].r → (L[j].q = 0 ∨ S[j] < L[j].q) → (S[k] - L[k].p - 1) * L[j].r < (S[j] - L[j].p + 1) * L[k].r) := Go.Lib.hid fun j h2 h2' => HF.out.two k j hkL hkS h2 h2'
      generalize S[k] = s at *
      generalize L[k] = t at *
      clear hkL hkS hA4 hX4 hb04
      have HT := Go.Lib.hid T
      have HNR := Go.Lib.hid N
      obtain ⟨z0, z1, z2, l0⟩ := T
      obtain ⟨y0, l1⟩ := N
      go_wp2
      refine region_ext_last 1 mixed (by kernel_rfl) ?_
      simp only [List.length_cons, List.length_nil, Nat.reduceAdd, Nat.reduceSub, List.take_succ_cons, List.take_zero, List.drop_succ_cons, List.drop_zero]
      repeat (go_big_quiet_step (fail))
      refine wpQuiet_nil ?_
      intro w5 hb5
      obtain ⟨x, hx⟩ : ∃ x, s - t.p = x := ⟨_, rfl⟩
      have hx0 : 0 ≤ x ∧ x ≤ 1000000000 := by omega
      have hA5 := hAr.on hb5
      have hX5 := hXr.on hb5
      have hb05 := belowOn hb0r hb5
      have hbr5 := belowOn hbr hb5
      have HT5 := Go.Lib.hid (HT.out.on hb5)
      have HN5 := Go.Lib.hid (HNR.out.on hb5)
      clear z0 z1 z2 l0 y0 l1 HT HNR hb5 hb0r hAr hXr hbr
      rw [hx]
      go_upto_region 16 with fail
      go_cut [123] from 70 to 195 (fun c wx => c = .bool false ∧ Below w5.heap.size w5 wx)
      case first =>
        obtain ⟨z0, z1, z2, l0⟩ := HT5.out
        obtain ⟨y0, l1⟩ := HN5.out
        have d0 : ¬ x < 0 := by omega
        have d1 : decide (x < 0) = false := by simp [d0]
        by_cases hx1 : 0 < x
        · have hr1 : ¬ t.r = 0 := fun e => by have := hzero e; omega
          have hr2 : (t.r == 0) = false := by simpa using hr1
          by_cases hq1 : 0 < t.q
          · have hq2 : decide (t.q < s) = false := by have := htop (by omega); simp; omega
            ((try go_wp2); refine region_ext mixed (by kernel_rfl) ?_; go_big_quiet_step (fail); (repeat (go_big_quiet_step (fail))); refine wpQuiet_nil ?_; intro w6 hb6; go_wp2; go_meet; exact ⟨rfl, hb6⟩)
          · have hq2 : decide (0 < t.q) = false := by simp [hq1]
            ((try go_wp2); refine region_ext mixed (by kernel_rfl) ?_; go_big_quiet_step (fail); (repeat (go_big_quiet_step (fail))); refine wpQuiet_nil ?_; intro w6 hb6; go_wp2; go_meet; exact ⟨rfl, hb6⟩)
        · have hx2 : decide (0 < x) = false := by simp [hx1]
          ((try go_wp2); refine region_ext mixed (by kernel_rfl) ?_; go_big_quiet_step (fail); (repeat (go_big_quiet_step (fail))); refine wpQuiet_nil ?_; intro w6 hb6; go_wp2; go_meet; exact ⟨rfl, hb6⟩)
      case rest =>
        obtain ⟨rfl, hb6⟩ := hcut
        have hA6 := hA5.on hb6
        have hX6 := hX5.on hb6
        have hb06 := belowOn hb05 hb6
        have hbr6 := belowOn hbr5 hb6
        clear hbr5
        have HT6 := Go.Lib.hid (HT5.out.on hb6)
        obtain ⟨y0, l1⟩ := HN5.out.on hb6
        clear HT5 HN5 hA5 hX5 hb05 hb6
        go_wp2
        clear y0 l1
        go_loopw [15] (fun jv wq => ∃ j : Nat, j ≤ n ∧ jv = .int .i64 j ∧ Below wc.heap.size wc wq) (fun jv _ => n - (intOf jv).toNat)
        case atStart => exact ⟨0, by omega, rfl, Below.refl _ _⟩
        case round =>
          obtain ⟨j, hj, rfl, hbq⟩ := hrel
          have hAq := hA6.on hbq
          have hXq := hX6.on hbq
          have hb0q := belowOn hb06 hbq
          have HTq := Go.Lib.hid (HT6.out.on hbq)
          by_cases hlj : j < n
          · have hlji : (j : Int) < (n : Int) := by omega
            have hjL : j < L.length := by have := HN.out; omega
            have hjS : j < S.length := by have := HN.out; have := HSL.out; omega
            have HT2 := Go.Lib.hid (hAq.tr hjL)
            have HN2 := Go.Lib.hid (hXq.nr hjS)
            obtain ⟨hsb2, hlow2, hzero2, htop2, hpb2, hqb2, hrb2⟩ := HF.out.one j hjL hjS
            have HTW := Go.Lib.hid (HTWO.out j hjL hjS)
            clear HTWO hAq hXq
            generalize S[j] = s2 at *
            generalize L[j] = t2 at *
            clear hjL hjS
            obtain ⟨z0, z1, z2, l0⟩ := HT2.out
            obtain ⟨y0, l1⟩ := HN2.out
            go_wp2
            refine region_ext_last 1 mixed (by kernel_rfl) ?_
            simp only [List.length_cons, List.length_nil, Nat.reduceAdd, Nat.reduceSub, List.take_succ_cons, List.take_zero, List.drop_succ_cons, List.drop_zero]
            repeat (go_big_quiet_step (fail))
            refine wpQuiet_nil ?_
            intro w7 hb7
            clear z0 z1 z2 l0 y0 l1
            obtain ⟨y, hy⟩ : ∃ y, s2 - t2.p = y := ⟨_, rfl⟩
            have hy0 : 0 ≤ y ∧ y ≤ 1000000000 := by omega
            have HTW : Hid (0 < x → 0 < t2.r → (t2.q = 0 ∨ s2 < t2.q) → (x - 1) * t2.r < (y + 1) * t.r) := Go.Lib.hid fun a b c => by
              have := HTW.out (by omega) b c
              rw [hx, hy] at this
              exact this
            have HT7 := Go.Lib.hid (HTq.out.on hb7)
            have HT2 := Go.Lib.hid (HT2.out.on hb7)
            have HN2 := Go.Lib.hid (HN2.out.on hb7)
            have hbq7 := belowOn hbq hb7
            clear HTq hbq hb7
            go_wp2
            rw [hy]
            go_upto_region 23 with fail
            go_cut [17] from 130 to 195 (fun m wx => ∃ M : Bool, m = .bool M ∧ (M = true → 0 < t2.r ∧ (t2.q = 0 ∨ s2 < t2.q)) ∧ Below w7.heap.size w7 wx)
            case first =>
              obtain ⟨z0, z1, z2, l0⟩ := HT2.out
              obtain ⟨y0, l1⟩ := HN2.out
              by_cases r1 : 0 < t2.r
              · by_cases q1 : t2.q = 0
                · have q2 : (t2.q == 0) = true := by simp [q1]
                  ((try go_wp2); refine region_ext_last 1 mixed (by kernel_rfl) ?_; simp only [List.length_cons, List.length_nil, Nat.reduceAdd, Nat.reduceSub, List.take_succ_cons, List.take_zero, List.drop_succ_cons, List.drop_zero]; (repeat (go_big_quiet_step (fail))); refine wpQuiet_nil ?_; intro w8 hb8; go_wp2; go_meet)
                  exact ⟨_, rfl, fun _ => ⟨r1, .inl q1⟩, hb8⟩
                · have q2 : (t2.q == 0) = false := by simp [q1]
                  by_cases a1 : s2 < t2.q
                  · ((try go_wp2); refine region_ext_last 1 mixed (by kernel_rfl) ?_; simp only [List.length_cons, List.length_nil, Nat.reduceAdd, Nat.reduceSub, List.take_succ_cons, List.take_zero, List.drop_succ_cons, List.drop_zero]; (repeat (go_big_quiet_step (fail))); refine wpQuiet_nil ?_; intro w8 hb8; go_wp2; go_meet)
                    exact ⟨_, rfl, fun _ => ⟨r1, .inr a1⟩, hb8⟩
                  · have a2 : decide (s2 < t2.q) = false := by simp [a1]
                    ((try go_wp2); refine region_ext_last 1 mixed (by kernel_rfl) ?_; simp only [List.length_cons, List.length_nil, Nat.reduceAdd, Nat.reduceSub, List.take_succ_cons, List.take_zero, List.drop_succ_cons, List.drop_zero]; (repeat (go_big_quiet_step (fail))); refine wpQuiet_nil ?_; intro w8 hb8; go_wp2; go_meet)
                    exact ⟨_, rfl, fun h => (by simp at h), hb8⟩
              · have r2 : decide (0 < t2.r) = false := by simp [r1]
                ((try go_wp2); refine region_ext_last 1 mixed (by kernel_rfl) ?_; simp only [List.length_cons, List.length_nil, Nat.reduceAdd, Nat.reduceSub, List.take_succ_cons, List.take_zero, List.drop_succ_cons, List.drop_zero]; (repeat (go_big_quiet_step (fail))); refine wpQuiet_nil ?_; intro w8 hb8; go_wp2; go_meet)
                exact ⟨_, rfl, fun h => (by simp at h), hb8⟩
            case rest =>
              obtain ⟨M, rfl, hM, hb8⟩ := hcut
              have HT8 := Go.Lib.hid (HT7.out.on hb8)
              have HT2 := Go.Lib.hid (HT2.out.on hb8)
              have hbq8 := belowOn hbq7 hb8
              clear HT7 HN2 hbq7 hb8
              have HM := Go.Lib.hid hM
              clear hM
              go_upto_region 24 with fail
              go_cut [195] from 130 to 195 (fun c wx => c = .bool false ∧ Below wc.heap.size wc wx)
              case first =>
                obtain ⟨z0, z1, z2, l0⟩ := HT8.out
                obtain ⟨y0, y1, y2, l1⟩ := HT2.out
                by_cases hx1 : 0 < x
                · cases M
                  · ((try go_wp2); refine region_ext mixed (by kernel_rfl) ?_; (repeat (go_big_quiet_step (fail))); refine wpQuiet_nil ?_; intro w9 hb9; go_wp2; go_meet; exact ⟨rfl, hb9⟩)
                  · have hp := HTW.out hx1 (HM.out rfl).1 (HM.out rfl).2
                    have hd : decide ((y + 1) * t.r ≤ (x - 1) * t2.r) = false := by simp; exact hp
                    have b1 := prod_bd (a := x - 1) (b := t2.r) (by omega) hrb2
                    have b2 := prod_bd (a := y + 1) (b := t.r) (by omega) hrb
                    ((try go_wp2); refine region_ext mixed (by kernel_rfl) ?_; (repeat (go_big_quiet_step (fail))); refine wpQuiet_nil ?_; intro w9 hb9; go_wp2; go_meet; exact ⟨rfl, hb9⟩)
                · have hx2 : decide (0 < x) = false := by simp [hx1]
                  ((try go_wp2); refine region_ext mixed (by kernel_rfl) ?_; (repeat (go_big_quiet_step (fail))); refine wpQuiet_nil ?_; intro w9 hb9; go_wp2; go_meet; exact ⟨rfl, hb9⟩)
              case rest =>
                obtain ⟨rfl, hb9⟩ := hcut
                have hbq9 := belowOn hbq8 hb9
                go_wp2
                go_roundw
                case rel => exact ⟨j + 1, by omega, by go_num, hbq9⟩
                case measure => simp [intOf]; omega
          · have hlj' : ¬ ((j : Int) < (n : Int)) := by omega
            have hb49 := belowOn hbr6 hbq
            have e6 : wrap64 (sumI (S.take k) + s) = sumI (S.take k) + s := IntWalk.wrap64_in _ (by omega)
            clear hAq hXq HTq hbr6
            go_wp2
            go_roundw
            case rel => exact ⟨k + 1, by omega, by go_num, by rw [HNX.out], hb49⟩
            case measure => simp [intOf]; omega
    · have hlt' : ¬ ((k : Int) < (n : Int)) := by omega
      have hkn : k = S.length := by have := HN.out; have := HSL.out; omega
      have hfin := HS.out
      have htk : sumI (S.take k) = sumI S := by rw [hkn, List.take_length]
      rw [htk]
      rw [if_neg (by omega)] at hfin
      clear hAr hXr hA4 hX4
      rw [hfin]
      go_wp2
      go_ret
      exact ⟨ret_bool (by simp), hb0r⟩

set_option maxRecDepth 100000 in
set_option maxHeartbeats 8000000 in
theorem fair_top (w : World) (A : Option Addr) (c : Nat) (L : List T3) (hA : At w.heap.size w A (t3s L)) (n : Nat) (HN : Hid (L.length = n)) (hb : ¬ (300 : Int) < (n : Int)) (room need most : Int) (S : List Int) (HSL : Hid (S.length = L.length))
    (HSHARE : Hid (∀ w, At w.heap.size w A (t3s L) → w.heap.size ≤ w.heap.size → Calls Try.prog 20 #[.slice A n c, .int .i64 room] w (IntsE S 0 w)))
    (HNEED : Hid (∀ w, At w.heap.size w A (t3s L) → w.heap.size ≤ w.heap.size → Calls Try.prog 22 #[.slice A n c] w fun e w' => e = .returned (.tuple #[.int .i64 need, .int .i64 0]) ∧ Below w.heap.size w w'))
    (HMOST : Hid (∀ w, At w.heap.size w A (t3s L) → w.heap.size ≤ w.heap.size → Calls Try.prog 24 #[.slice A n c] w fun e w' => e = .returned (.tuple #[.int .i64 most, .int .i64 0]) ∧ Below w.heap.size w w'))
    (hn0 : 0 ≤ need ∧ need ≤ 1000000000) (hm0 : need ≤ most ∧ most ≤ 1000000000) (hr0 : 0 ≤ room ∧ room ≤ 32768)
    (HF : Hid (FairAt L S)) (HB : Hid (∀ k, 0 ≤ sumI (S.take k) ∧ sumI (S.take k) ≤ 1024000000000)) (HS : Hid (sumI S = if 0 ≤ most then min (max need room) most else max need room)) :
    Calls Try.prog 6 #[.slice A n c, .int .i64 room] w fun e w' => e = .returned (.bool true) ∧ Below w.heap.size w w' := by
  go_enter Try.func6, Try.ntmps6
  go_wp2_with fail
  refine (alive_any _).mono ?_
  rintro e w1 ⟨rfl, hb1⟩
  have hA1 := hA.on hb1
  go_wp2_with fail
  refine (HSHARE.out _ hA1 (Nat.le_refl _)).mono ?_
  rintro e w2 ⟨X, cX, rfl, hown, hb2⟩
  have hA2 := hA1.on hb2
  have hX2 := At.of_own hown
  rw [HSL.out, HN.out] at hown ⊢
  have hb02 := belowOn hb1 hb2
  clear hown hb1 hb2 hA1 hA HSHARE
  go_wp2_with fail
  refine (HNEED.out _ hA2 (Nat.le_refl _)).mono ?_
  rintro e w3 ⟨rfl, hb3⟩
  have hA3 := hA2.on hb3
  have hX3 := hX2.on hb3
  have hb03 := belowOn hb02 hb3
  clear hb02 hb3 hA2 hX2
  go_wp2_with fail
  refine (HMOST.out _ hA3 (Nat.le_refl _)).mono ?_
  rintro e w4 ⟨rfl, hb4⟩
  have hA4 := hA3.on hb4
  have hX4 := hX3.on hb4
  have hb04 := belowOn hb03 hb4
  clear hb03 hb4 hA3 hX3 HNEED HMOST
  have e0 : wrap64 0 = 0 := IntWalk.wrap64_in _ (by omega)
  have hm1 : 0 ≤ most := by omega
  have hm2 : ¬ most < need := by omega
  go_wp2
  go_loopw [12, 13] (fun sm i wr => ∃ k : Nat, k ≤ n ∧ i = .int .i64 k ∧ sm = .int .i64 (sumI (S.take k)) ∧ Below w4.heap.size w4 wr) (fun _ i _ => n - (intOf i).toNat)
  case atStart => exact ⟨0, by omega, rfl, by simp [sumI], Below.refl _ _⟩
  case round =>
    obtain ⟨k, hk, rfl, rfl, hbr⟩ := hrel
    have hAr := hA4.on hbr
    have hXr := hX4.on hbr
    have hb0r := belowOn hb04 hbr
    have hsk := HB.out k
    by_cases hlt : k < n
    · have hli : (k : Int) < (n : Int) := by omega
      have hkL : k < L.length := by have := HN.out; omega
      have hkS : k < S.length := by have := HN.out; have := HSL.out; omega
      obtain ⟨g0, o0, rfl⟩ := hAr.t3head hkL
      obtain ⟨g1, o1, rfl⟩ := hXr.inthead hkS
      have T := hAr.tr hkL
      have N := hXr.nr hkS
      obtain ⟨hsb, hlow, hzero, htop, hpb, hqb, hrb⟩ := HF.out.one k hkL hkS
      have HNX := Go.Lib.hid (sum_take S k hkS)
      have HTWO : Hid (∀ j (h2 : j < L.length) (h2' : j < S.length), L[k].p < S[k] → 0 < L[j].r → (L[j].q = 0 ∨ S[j] < L[j].q) → (S[k] - L[k].p - 1) * L[j].r < (S[j] - L[j].p + 1) * L[k].r) := Go.Lib.hid fun j h2 h2' => HF.out.two k j hkL hkS h2 h2'
      generalize S[k] = s at *
      generalize L[k] = t at *
      clear hkL hkS hA4 hX4 hb04
      have HT := Go.Lib.hid T
      have HNR := Go.Lib.hid N
      obtain ⟨z0, z1, z2, l0⟩ := T
      obtain ⟨y0, l1⟩ := N
      go_wp2
      refine region_ext_last 1 mixed (by kernel_rfl) ?_
      simp only [List.length_cons, List.length_nil, Nat.reduceAdd, Nat.reduceSub, List.take_succ_cons, List.take_zero, List.drop_succ_cons, List.drop_zero]
      repeat (go_big_quiet_step (fail))
      refine wpQuiet_nil ?_
      intro w5 hb5
      obtain ⟨x, hx⟩ : ∃ x, s - t.p = x := ⟨_, rfl⟩
      have hx0 : 0 ≤ x ∧ x ≤ 1000000000 := by omega
      have hA5 := hAr.on hb5
      have hX5 := hXr.on hb5
      have hb05 := belowOn hb0r hb5
      have hbr5 := belowOn hbr hb5
      have HT5 := Go.Lib.hid (HT.out.on hb5)
      have HN5 := Go.Lib.hid (HNR.out.on hb5)
      clear z0 z1 z2 l0 y0 l1 HT HNR hb5 hb0r hAr hXr hbr
      rw [hx]
      go_upto_region 16 with fail
      go_cut [123] from 70 to 195 (fun c wx => c = .bool false ∧ Below w5.heap.size w5 wx)
      case first =>
        obtain ⟨z0, z1, z2, l0⟩ := HT5.out
        obtain ⟨y0, l1⟩ := HN5.out
        have d0 : ¬ x < 0 := by omega
        have d1 : decide (x < 0) = false := by simp [d0]
        by_cases hx1 : 0 < x
        · have hr1 : ¬ t.r = 0 := fun e => by have := hzero e; omega
          have hr2 : (t.r == 0) = false := by simpa using hr1
          by_cases hq1 : 0 < t.q
          · have hq2 : decide (t.q < s) = false := by have := htop (by omega); simp; omega
            ((try go_wp2); refine region_ext mixed (by kernel_rfl) ?_; go_big_quiet_step (fail); (repeat (go_big_quiet_step (fail))); refine wpQuiet_nil ?_; intro w6 hb6; go_wp2; go_meet; exact ⟨rfl, hb6⟩)
          · have hq2 : decide (0 < t.q) = false := by simp [hq1]
            ((try go_wp2); refine region_ext mixed (by kernel_rfl) ?_; go_big_quiet_step (fail); (repeat (go_big_quiet_step (fail))); refine wpQuiet_nil ?_; intro w6 hb6; go_wp2; go_meet; exact ⟨rfl, hb6⟩)
        · have hx2 : decide (0 < x) = false := by simp [hx1]
          ((try go_wp2); refine region_ext mixed (by kernel_rfl) ?_; go_big_quiet_step (fail); (repeat (go_big_quiet_step (fail))); refine wpQuiet_nil ?_; intro w6 hb6; go_wp2; go_meet; exact ⟨rfl, hb6⟩)
      case rest =>
        obtain ⟨rfl, hb6⟩ := hcut
        have hA6 := hA5.on hb6
        have hX6 := hX5.on hb6
        have hb06 := belowOn hb05 hb6
        have hbr6 := belowOn hbr5 hb6
        clear hbr5
        have HT6 := Go.Lib.hid (HT5.out.on hb6)
        obtain ⟨y0, l1⟩ := HN5.out.on hb6
        clear HT5 HN5 hA5 hX5 hb05 hb6
        go_wp2
        clear y0 l1
        go_loopw [15] (fun jv wq => ∃ j : Nat, j ≤ n ∧ jv = .int .i64 j ∧ Below wc.heap.size wc wq) (fun jv _ => n - (intOf jv).toNat)
        case atStart => exact ⟨0, by omega, rfl, Below.refl _ _⟩
        case round =>
          obtain ⟨j, hj, rfl, hbq⟩ := hrel
          have hAq := hA6.on hbq
          have hXq := hX6.on hbq
          have hb0q := belowOn hb06 hbq
          have HTq := Go.Lib.hid (HT6.out.on hbq)
          by_cases hlj : j < n
          · have hlji : (j : Int) < (n : Int) := by omega
            have hjL : j < L.length := by have := HN.out; omega
            have hjS : j < S.length := by have := HN.out; have := HSL.out; omega
            have HT2 := Go.Lib.hid (hAq.tr hjL)
            have HN2 := Go.Lib.hid (hXq.nr hjS)
            obtain ⟨hsb2, hlow2, hzero2, htop2, hpb2, hqb2, hrb2⟩ := HF.out.one j hjL hjS
            have HTW := Go.Lib.hid (HTWO.out j hjL hjS)
            clear HTWO hAq hXq
            generalize S[j] = s2 at *
            generalize L[j] = t2 at *
            clear hjL hjS
            obtain ⟨z0, z1, z2, l0⟩ := HT2.out
            obtain ⟨y0, l1⟩ := HN2.out
            go_wp2
            refine region_ext_last 1 mixed (by kernel_rfl) ?_
            simp only [List.length_cons, List.length_nil, Nat.reduceAdd, Nat.reduceSub, List.take_succ_cons, List.take_zero, List.drop_succ_cons, List.drop_zero]
            repeat (go_big_quiet_step (fail))
            refine wpQuiet_nil ?_
            intro w7 hb7
            clear z0 z1 z2 l0 y0 l1
            obtain ⟨y, hy⟩ : ∃ y, s2 - t2.p = y := ⟨_, rfl⟩
            have hy0 : 0 ≤ y ∧ y ≤ 1000000000 := by omega
            have HTW : Hid (0 < x → 0 < t2.r → (t2.q = 0 ∨ s2 < t2.q) → (x - 1) * t2.r < (y + 1) * t.r) := Go.Lib.hid fun a b c => by
              have := HTW.out (by omega) b c
              rw [hx, hy] at this
              exact this
            have HT7 := Go.Lib.hid (HTq.out.on hb7)
            have HT2 := Go.Lib.hid (HT2.out.on hb7)
            have HN2 := Go.Lib.hid (HN2.out.on hb7)
            have hbq7 := belowOn hbq hb7
            clear HTq hbq hb7
            go_wp2
            rw [hy]
            go_upto_region 23 with fail
            go_cut [17] from 130 to 195 (fun m wx => ∃ M : Bool, m = .bool M ∧ (M = true → 0 < t2.r ∧ (t2.q = 0 ∨ s2 < t2.q)) ∧ Below w7.heap.size w7 wx)
            case first =>
              obtain ⟨z0, z1, z2, l0⟩ := HT2.out
              obtain ⟨y0, l1⟩ := HN2.out
              by_cases r1 : 0 < t2.r
              · by_cases q1 : t2.q = 0
                · have q2 : (t2.q == 0) = true := by simp [q1]
                  ((try go_wp2); refine region_ext_last 1 mixed (by kernel_rfl) ?_; simp only [List.length_cons, List.length_nil, Nat.reduceAdd, Nat.reduceSub, List.take_succ_cons, List.take_zero, List.drop_succ_cons, List.drop_zero]; (repeat (go_big_quiet_step (fail))); refine wpQuiet_nil ?_; intro w8 hb8; go_wp2; go_meet)
                  exact ⟨_, rfl, fun _ => ⟨r1, .inl q1⟩, hb8⟩
                · have q2 : (t2.q == 0) = false := by simp [q1]
                  by_cases a1 : s2 < t2.q
                  · ((try go_wp2); refine region_ext_last 1 mixed (by kernel_rfl) ?_; simp only [List.length_cons, List.length_nil, Nat.reduceAdd, Nat.reduceSub, List.take_succ_cons, List.take_zero, List.drop_succ_cons, List.drop_zero]; (repeat (go_big_quiet_step (fail))); refine wpQuiet_nil ?_; intro w8 hb8; go_wp2; go_meet)
                    exact ⟨_, rfl, fun _ => ⟨r1, .inr a1⟩, hb8⟩
                  · have a2 : decide (s2 < t2.q) = false := by simp [a1]
                    ((try go_wp2); refine region_ext_last 1 mixed (by kernel_rfl) ?_; simp only [List.length_cons, List.length_nil, Nat.reduceAdd, Nat.reduceSub, List.take_succ_cons, List.take_zero, List.drop_succ_cons, List.drop_zero]; (repeat (go_big_quiet_step (fail))); refine wpQuiet_nil ?_; intro w8 hb8; go_wp2; go_meet)
                    exact ⟨_, rfl, fun h => (by simp at h), hb8⟩
              · have r2 : decide (0 < t2.r) = false := by simp [r1]
                ((try go_wp2); refine region_ext_last 1 mixed (by kernel_rfl) ?_; simp only [List.length_cons, List.length_nil, Nat.reduceAdd, Nat.reduceSub, List.take_succ_cons, List.take_zero, List.drop_succ_cons, List.drop_zero]; (repeat (go_big_quiet_step (fail))); refine wpQuiet_nil ?_; intro w8 hb8; go_wp2; go_meet)
                exact ⟨_, rfl, fun h => (by simp at h), hb8⟩
            case rest =>
              obtain ⟨M, rfl, hM, hb8⟩ := hcut
              have HT8 := Go.Lib.hid (HT7.out.on hb8)
              have HT2 := Go.Lib.hid (HT2.out.on hb8)
              have hbq8 := belowOn hbq7 hb8
              clear HT7 HN2 hbq7 hb8
              have HM := Go.Lib.hid hM
              clear hM
              go_upto_region 24 with fail
              go_cut [195] from 130 to 195 (fun c wx => c = .bool false ∧ Below wc.heap.size wc wx)
              case first =>
                obtain ⟨z0, z1, z2, l0⟩ := HT8.out
                obtain ⟨y0, y1, y2, l1⟩ := HT2.out
                by_cases hx1 : 0 < x
                · cases M
                  · ((try go_wp2); refine region_ext mixed (by kernel_rfl) ?_; (repeat (go_big_quiet_step (fail))); refine wpQuiet_nil ?_; intro w9 hb9; go_wp2; go_meet; exact ⟨rfl, hb9⟩)
                  · have hp := HTW.out hx1 (HM.out rfl).1 (HM.out rfl).2
                    have hd : decide ((y + 1) * t.r ≤ (x - 1) * t2.r) = false := by simp; exact hp
                    have b1 := prod_bd (a := x - 1) (b := t2.r) (by omega) hrb2
                    have b2 := prod_bd (a := y + 1) (b := t.r) (by omega) hrb
                    ((try go_wp2); refine region_ext mixed (by kernel_rfl) ?_; (repeat (go_big_quiet_step (fail))); refine wpQuiet_nil ?_; intro w9 hb9; go_wp2; go_meet; exact ⟨rfl, hb9⟩)
                · have hx2 : decide (0 < x) = false := by simp [hx1]
                  ((try go_wp2); refine region_ext mixed (by kernel_rfl) ?_; (repeat (go_big_quiet_step (fail))); refine wpQuiet_nil ?_; intro w9 hb9; go_wp2; go_meet; exact ⟨rfl, hb9⟩)
              case rest =>
                obtain ⟨rfl, hb9⟩ := hcut
                have hbq9 := belowOn hbq8 hb9
                go_wp2
                go_roundw
                case rel => exact ⟨j + 1, by omega, by go_num, hbq9⟩
                case measure => simp [intOf]; omega
          · have hlj' : ¬ ((j : Int) < (n : Int)) := by omega
            have hb49 := belowOn hbr6 hbq
            have e6 : wrap64 (sumI (S.take k) + s) = sumI (S.take k) + s := IntWalk.wrap64_in _ (by omega)
            clear hAq hXq HTq hbr6
            go_wp2
            go_roundw
            case rel => exact ⟨k + 1, by omega, by go_num, by rw [HNX.out], hb49⟩
            case measure => simp [intOf]; omega
    · have hlt' : ¬ ((k : Int) < (n : Int)) := by omega
      have hkn : k = S.length := by have := HN.out; have := HSL.out; omega
      have hfin := HS.out
      have htk : sumI (S.take k) = sumI S := by rw [hkn, List.take_length]
      rw [htk]
      rw [if_pos (by omega)] at hfin
      clear hAr hXr hA4 hX4
      rw [hfin]
      go_wp2
      go_ret
      exact ⟨ret_bool (by simp), hb0r⟩
end Go.Proofs.Ythannibclhidcaa
