/- Layer 10: Need, Most, Starts, both sides. (Printed by gen_c.py.) -/
import Derived.Test.YthannibclhidcaaFlexB
namespace Go.Proofs.Ythannibclhidcaa
set_option linter.unusedVariables false
set_option linter.unusedSimpArgs false
open Go.RowKit
attribute [local go_sem] max_fold min_fold

theorem chk_ok {L : List T3} (h : chk L = 0) : L.length ≤ 1024 ∧ ∀ t ∈ L, mayT t = true := by
  unfold chk at h
  split at h
  · omega
  · split at h
    · rename_i ha
      exact ⟨by omega, fun t ht => List.all_eq_true.1 ha t ht⟩
    · omega
theorem chk_is (L : List T3) : chk L = 0 ∨ chk L = 4 ∨ chk L = 100 := by
  unfold chk
  split
  · omega
  · split <;> omega
def sumP : List T3 → Int
  | [] => 0
  | t :: L => t.p + sumP L
theorem sumP_append (L M : List T3) : sumP (L ++ M) = sumP L + sumP M := by
  induction L with
  | nil => simp [sumP]
  | cons t L ih => simp only [List.cons_append, sumP, ih]; omega
theorem sumP_take (L : List T3) (k : Nat) (h : k < L.length) : sumP (L.take (k + 1)) = sumP (L.take k) + L[k].p := by
  rw [List.take_succ_eq_append_getElem h, sumP_append]
  simp [sumP]
theorem sumP_bd {L : List T3} (h : ∀ t ∈ L, mayT t = true) : 0 ≤ sumP L ∧ sumP L ≤ L.length * 16384 := by
  induction L with
  | nil => simp [sumP]
  | cons t L ih =>
    have h1 := ih fun t ht => h t (by simp [ht])
    have h2 := (mayT_iff t).1 (h t (by simp))
    simp only [sumP, List.length_cons]
    omega
def needR (L : List T3) : Int := if chk L = 0 then sumP L else 0
def mostG : List T3 → Int → Int
  | [], n => n
  | t :: L, n => if t.r = 0 then mostG L (n + t.p) else if t.q = 0 then -1 else mostG L (n + t.q)
theorem mostG_drop (L : List T3) (k : Nat) (h : k < L.length) (n : Int) : mostG (L.drop k) n = if L[k].r = 0 then mostG (L.drop (k + 1)) (n + L[k].p) else if L[k].q = 0 then -1 else mostG (L.drop (k + 1)) (n + L[k].q) := by
  rw [List.drop_eq_getElem_cons h]
  rfl
def mostR (L : List T3) : Int := if chk L = 0 then mostG L 0 else 0
theorem track_bd {L : List T3} (h : ∀ t ∈ L, mayT t = true) {k : Nat} (hk : k < L.length) : (0 ≤ L[k].p ∧ L[k].p ≤ 16384) ∧ (0 ≤ L[k].q ∧ L[k].q ≤ 16384) ∧ (0 ≤ L[k].r ∧ L[k].r ≤ 16384) := by
  have := (mayT_iff L[k]).1 (h _ (List.getElem_mem hk))
  omega
def okS (S : List Int) : Bool := S.all fun n => inB n 0 32768
def startsE (S : List Int) (gap : Int) : Int := if 1024 < S.length then 4 else if okS S && inB gap 0 16384 then 0 else 2
def startsR (S : List Int) (gap : Int) : List Int := if startsE S gap = 0 then startsL S gap else []
theorem okS_take (S : List Int) (k : Nat) (h : k < S.length) : okS (S.take (k + 1)) = (okS (S.take k) && inB S[k] 0 32768) := by
  rw [List.take_succ_eq_append_getElem h]
  simp only [okS, List.all_append, List.all_cons, List.all_nil, Bool.and_true]
theorem okS_no {S : List Int} {k : Nat} (h : k < S.length) (hm : inB S[k] 0 32768 = false) : okS S = false := by
  rw [Bool.eq_false_iff]
  intro ha
  have := (List.all_eq_true.1 ha) S[k] (List.getElem_mem h)
  rw [hm] at this
  cases this
def IntsE (l : List Int) (err : Int) (W : World) (e : Ending) (w' : World) : Prop := ∃ A c, e = .returned (.tuple #[.slice A l.length c, .int .i64 err]) ∧ w'.ownsRow W.heap.size 3 1 (.slice A l.length c) l.length (ints l) ∧ Below W.heap.size W w'
theorem IntsE.none {err : Int} {W w' : World} (hb : Below W.heap.size W w') : IntsE [] err W (.returned (.tuple #[.slice none 0 0, .int .i64 err])) w' := ⟨Option.none, 0, rfl, World.ownsRow_nil _ _ _ _, hb⟩
theorem IntsE.mk {l : List Int} {err : Int} {W W1 w' : World} {A : Option Addr} {c : Nat} (h : w'.ownsRow W1.heap.size 3 1 (.slice A l.length c) l.length (ints l)) (hs : W.heap.size ≤ W1.heap.size) (hb : Below W.heap.size W w') : IntsE l err W (.returned (.tuple #[.slice A l.length c, .int .i64 err])) w' := ⟨A, c, rfl, own_mono h hs, hb⟩

set_option maxHeartbeats 1000000 in
theorem need_any (B : Nat) (A : Option Addr) (c : Nat) (L : List T3) (w : World) (hA : At B w A (t3s L)) (hB : B ≤ w.heap.size) (hl : L.length ≤ 9000000000000000000) :
    Calls Try.prog 22 #[.slice A L.length c] w fun e w' => e = .returned (.tuple #[.int .i64 (needR L), .int .i64 (chk L)]) ∧ Below w.heap.size w w' := by
  by_cases h0 : chk L = 0
  · obtain ⟨hlen, hall⟩ := chk_ok h0
    rw [show needR L = sumP L by simp [needR, h0], h0]
    have HA := Go.Lib.hid hall
    have HC : Hid (∀ w, At B w A (t3s L) → B ≤ w.heap.size → Calls Try.prog 50 #[.slice A L.length c] w fun e w' => e = .returned (.int .i64 0) ∧ Below w.heap.size w w') := Go.Lib.hid fun w h1 h2 => h0 ▸ check_any B A c L w h1 h2 hl
    clear h0 hall
    go_enter Try.func22, Try.ntmps22
    go_wp2_with fail
    refine (HC.out _ hA hB).mono ?_
    rintro e w1 ⟨rfl, hb1⟩
    have hA1 := hA.below (hb1.mono hB)
    clear HC hA
    go_wp2
    go_loopw [5, 15] (fun n i wr => ∃ k : Nat, k ≤ L.length ∧ i = .int .i64 k ∧ n = .int .i64 (sumP (L.take k)) ∧ Below w.heap.size w wr ∧ At B wr A (t3s L)) (fun _ i _ => L.length - (intOf i).toNat)
    case atStart => exact ⟨0, by omega, rfl, by simp [sumP], hb1, hA1⟩
    case round =>
      clear hA1 hb1
      obtain ⟨k, hk, rfl, rfl, hbr, hA⟩ := hrel
      have hsr := hbr.size
      have hbd := sumP_bd (L := L.take k) (fun t ht => HA.out t (List.mem_of_mem_take ht))
      have hkl : (L.take k).length = k := by rw [List.length_take]; omega
      rw [hkl] at hbd
      by_cases hlt : k < L.length
      · have hli : (k : Int) < (L.length : Int) := by omega
        obtain ⟨g, o, rfl, hg, c0, c1, c2⟩ := hA.t3 hlt
        have htb := track_bd HA.out hlt
        have hsu := sumP_take L k hlt
        generalize L[k] = t at *
        have HS := Go.Lib.hid hsu
        clear hsu hkl
        generalize sumP (L.take k) = P at *
        go_wp2
        go_roundw
        case rel => exact ⟨k + 1, by omega, by go_num, by rw [HS.out], hbr.alloc hsr _, hA.ext ((Below.refl _ _).alloc (Nat.le_refl _) _)⟩
        case measure => simp [intOf]; omega
      · have hlt' : ¬ ((k : Int) < (L.length : Int)) := by omega
        have hke : k = L.length := by omega
        clear hkl
        go_wp2
        go_ret2
        try rw [hke, List.take_length]
        exact ⟨rfl, hbr⟩
  · have hne : (chk L != 0) = true := by simpa using h0
    rw [show needR L = 0 by simp [needR, h0]]
    go_enter Try.func22, Try.ntmps22
    go_wp2_with fail
    refine (check_any B A c L _ hA hB hl).mono ?_
    rintro e w1 ⟨rfl, hb1⟩
    go_wp2
    go_ret2
    exact ⟨rfl, hb1⟩

set_option maxHeartbeats 1000000 in
theorem rneed_any (B : Nat) (A : Option Addr) (c : Nat) (L : List T3) (w : World) (hA : At B w A (t3s L)) (hB : B ≤ w.heap.size) (hl : L.length ≤ 9000000000000000000) :
    Calls Try.prog 23 #[.slice A L.length c] w fun e w' => e = .returned (.tuple #[.int .i64 (needR L), .int .i64 (chk L)]) ∧ Below w.heap.size w w' := by
  by_cases h0 : chk L = 0
  · obtain ⟨hlen, hall⟩ := chk_ok h0
    rw [show needR L = sumP L by simp [needR, h0], h0]
    have HA := Go.Lib.hid hall
    have HC : Hid (∀ w, At B w A (t3s L) → B ≤ w.heap.size → Calls Try.prog 52 #[.slice A L.length c] w fun e w' => e = .returned (.int .i64 0) ∧ Below w.heap.size w w') := Go.Lib.hid fun w h1 h2 => h0 ▸ rcheck_any B A c L w h1 h2 hl
    clear h0 hall
    go_enter Try.func23, Try.ntmps23
    go_wp2_with fail
    refine (HC.out _ hA hB).mono ?_
    rintro e w1 ⟨rfl, hb1⟩
    have hA1 := hA.below (hb1.mono hB)
    clear HC hA
    go_wp2
    go_loopw [5, 6] (fun n i wr => ∃ k : Nat, k ≤ L.length ∧ i = .int .i64 k ∧ n = .int .i64 (sumP (L.take k)) ∧ Below w.heap.size w wr ∧ At B wr A (t3s L)) (fun _ i _ => L.length - (intOf i).toNat)
    case atStart => exact ⟨0, by omega, rfl, by simp [sumP], hb1, hA1⟩
    case round =>
      clear hA1 hb1
      obtain ⟨k, hk, rfl, rfl, hbr, hA⟩ := hrel
      have hsr := hbr.size
      have hbd := sumP_bd (L := L.take k) (fun t ht => HA.out t (List.mem_of_mem_take ht))
      have hkl : (L.take k).length = k := by rw [List.length_take]; omega
      rw [hkl] at hbd
      by_cases hlt : k < L.length
      · have hli : (k : Int) < (L.length : Int) := by omega
        obtain ⟨g, o, rfl, hg, c0, c1, c2⟩ := hA.t3 hlt
        have htb := track_bd HA.out hlt
        have hsu := sumP_take L k hlt
        generalize L[k] = t at *
        have HS := Go.Lib.hid hsu
        clear hsu hkl
        generalize sumP (L.take k) = P at *
        go_wp2
        go_roundw
        case rel => exact ⟨k + 1, by omega, by go_num, by rw [HS.out], hbr, hA⟩
        case measure => simp [intOf]; omega
      · have hlt' : ¬ ((k : Int) < (L.length : Int)) := by omega
        have hke : k = L.length := by omega
        clear hkl
        go_wp2
        go_ret2
        try rw [hke, List.take_length]
        exact ⟨rfl, hbr⟩
  · have hne : (chk L != 0) = true := by simpa using h0
    rw [show needR L = 0 by simp [needR, h0]]
    go_enter Try.func23, Try.ntmps23
    go_wp2_with fail
    refine (rcheck_any B A c L _ hA hB hl).mono ?_
    rintro e w1 ⟨rfl, hb1⟩
    go_wp2
    go_ret2
    exact ⟨rfl, hb1⟩

set_option maxHeartbeats 1000000 in
theorem most_any (B : Nat) (A : Option Addr) (c : Nat) (L : List T3) (w : World) (hA : At B w A (t3s L)) (hB : B ≤ w.heap.size) (hl : L.length ≤ 9000000000000000000) :
    Calls Try.prog 24 #[.slice A L.length c] w fun e w' => e = .returned (.tuple #[.int .i64 (mostR L), .int .i64 (chk L)]) ∧ Below w.heap.size w w' := by
  by_cases h0 : chk L = 0
  · obtain ⟨hlen, hall⟩ := chk_ok h0
    rw [show mostR L = mostG L 0 by simp [mostR, h0], h0]
    have HA := Go.Lib.hid hall
    have HC : Hid (∀ w, At B w A (t3s L) → B ≤ w.heap.size → Calls Try.prog 50 #[.slice A L.length c] w fun e w' => e = .returned (.int .i64 0) ∧ Below w.heap.size w w') := Go.Lib.hid fun w h1 h2 => h0 ▸ check_any B A c L w h1 h2 hl
    clear h0 hall
    go_enter Try.func24, Try.ntmps24
    go_wp2_with fail
    refine (HC.out _ hA hB).mono ?_
    rintro e w1 ⟨rfl, hb1⟩
    have hA1 := hA.below (hb1.mono hB)
    clear HC hA
    go_wp2
    go_loopw [5, 15] (fun n i wr => ∃ (k : Nat) (N : Int), k ≤ L.length ∧ i = .int .i64 k ∧ n = .int .i64 N ∧ 0 ≤ N ∧ N ≤ k * 16384 ∧ Hid (mostG (L.drop k) N = mostG L 0) ∧ Below w.heap.size w wr ∧ At B wr A (t3s L)) (fun _ i _ => L.length - (intOf i).toNat)
    case atStart => exact ⟨0, 0, by omega, rfl, rfl, by omega, by omega, Go.Lib.hid rfl, hb1, hA1⟩
    case round =>
      clear hA1 hb1
      obtain ⟨k, N, hk, rfl, rfl, hN1, hN2, HG, hbr, hA⟩ := hrel
      have hsr := hbr.size
      by_cases hlt : k < L.length
      · have hli : (k : Int) < (L.length : Int) := by omega
        obtain ⟨g, o, rfl, hg, c0, c1, c2⟩ := hA.t3 hlt
        have htb := track_bd HA.out hlt
        have hsu := mostG_drop L k hlt N
        generalize L[k] = t at *
        obtain ⟨tp, tq, tr⟩ := t
        simp only at hsu htb c0 c1 c2
        by_cases e1 : tr = 0
        · rw [if_pos e1] at hsu
          subst e1
          have HS := Go.Lib.hid hsu
          clear hsu
          go_wp2
          go_roundw
          case rel => exact ⟨k + 1, N + tp, by omega, by go_num, rfl, by omega, by omega, Go.Lib.hid (by rw [← HS.out]; exact HG.out), hbr.alloc hsr _, hA.ext ((Below.refl _ _).alloc (Nat.le_refl _) _)⟩
          case measure => simp [intOf]; omega
        · rw [if_neg e1] at hsu
          have d1 : (tr == 0) = false := by simpa using e1
          by_cases e2 : tq = 0
          · rw [if_pos e2] at hsu
            subst e2
            have HS := Go.Lib.hid hsu
            clear hsu
            go_wp2
            go_ret2
            exact ⟨by rw [← HG.out, HS.out]; rfl, hbr.alloc hsr _⟩
          · rw [if_neg e2] at hsu
            have d2 : (tq == 0) = false := by simpa using e2
            have HS := Go.Lib.hid hsu
            clear hsu
            go_wp2
            go_roundw
            case rel => exact ⟨k + 1, N + tq, by omega, by go_num, rfl, by omega, by omega, Go.Lib.hid (by rw [← HS.out]; exact HG.out), hbr.alloc hsr _, hA.ext ((Below.refl _ _).alloc (Nat.le_refl _) _)⟩
            case measure => simp [intOf]; omega
      · have hlt' : ¬ ((k : Int) < (L.length : Int)) := by omega
        have hke : k = L.length := by omega
        go_wp2
        go_ret2
        have := HG.out
        rw [hke, List.drop_length] at this
        exact ⟨by rw [← this]; rfl, hbr⟩
  · have hne : (chk L != 0) = true := by simpa using h0
    rw [show mostR L = 0 by simp [mostR, h0]]
    go_enter Try.func24, Try.ntmps24
    go_wp2_with fail
    refine (check_any B A c L _ hA hB hl).mono ?_
    rintro e w1 ⟨rfl, hb1⟩
    go_wp2
    go_ret2
    exact ⟨rfl, hb1⟩

set_option maxHeartbeats 1000000 in
theorem rmost_any (B : Nat) (A : Option Addr) (c : Nat) (L : List T3) (w : World) (hA : At B w A (t3s L)) (hB : B ≤ w.heap.size) (hl : L.length ≤ 9000000000000000000) :
    Calls Try.prog 25 #[.slice A L.length c] w fun e w' => e = .returned (.tuple #[.int .i64 (mostR L), .int .i64 (chk L)]) ∧ Below w.heap.size w w' := by
  by_cases h0 : chk L = 0
  · obtain ⟨hlen, hall⟩ := chk_ok h0
    rw [show mostR L = mostG L 0 by simp [mostR, h0], h0]
    have HA := Go.Lib.hid hall
    have HC : Hid (∀ w, At B w A (t3s L) → B ≤ w.heap.size → Calls Try.prog 52 #[.slice A L.length c] w fun e w' => e = .returned (.int .i64 0) ∧ Below w.heap.size w w') := Go.Lib.hid fun w h1 h2 => h0 ▸ rcheck_any B A c L w h1 h2 hl
    clear h0 hall
    go_enter Try.func25, Try.ntmps25
    go_wp2_with fail
    refine (HC.out _ hA hB).mono ?_
    rintro e w1 ⟨rfl, hb1⟩
    have hA1 := hA.below (hb1.mono hB)
    clear HC hA
    go_wp2
    go_loopw [5, 6] (fun n i wr => ∃ (k : Nat) (N : Int), k ≤ L.length ∧ i = .int .i64 k ∧ n = .int .i64 N ∧ 0 ≤ N ∧ N ≤ k * 16384 ∧ Hid (mostG (L.drop k) N = mostG L 0) ∧ Below w.heap.size w wr ∧ At B wr A (t3s L)) (fun _ i _ => L.length - (intOf i).toNat)
    case atStart => exact ⟨0, 0, by omega, rfl, rfl, by omega, by omega, Go.Lib.hid rfl, hb1, hA1⟩
    case round =>
      clear hA1 hb1
      obtain ⟨k, N, hk, rfl, rfl, hN1, hN2, HG, hbr, hA⟩ := hrel
      have hsr := hbr.size
      by_cases hlt : k < L.length
      · have hli : (k : Int) < (L.length : Int) := by omega
        obtain ⟨g, o, rfl, hg, c0, c1, c2⟩ := hA.t3 hlt
        have htb := track_bd HA.out hlt
        have hsu := mostG_drop L k hlt N
        generalize L[k] = t at *
        obtain ⟨tp, tq, tr⟩ := t
        simp only at hsu htb c0 c1 c2
        by_cases e1 : tr = 0
        · rw [if_pos e1] at hsu
          subst e1
          have HS := Go.Lib.hid hsu
          clear hsu
          go_wp2
          go_roundw
          case rel => exact ⟨k + 1, N + tp, by omega, by go_num, rfl, by omega, by omega, Go.Lib.hid (by rw [← HS.out]; exact HG.out), hbr, hA⟩
          case measure => simp [intOf]; omega
        · rw [if_neg e1] at hsu
          have d1 : (tr == 0) = false := by simpa using e1
          by_cases e2 : tq = 0
          · rw [if_pos e2] at hsu
            subst e2
            have HS := Go.Lib.hid hsu
            clear hsu
            go_wp2
            go_ret2
            exact ⟨by rw [← HG.out, HS.out]; rfl, hbr⟩
          · rw [if_neg e2] at hsu
            have d2 : (tq == 0) = false := by simpa using e2
            have HS := Go.Lib.hid hsu
            clear hsu
            go_wp2
            go_roundw
            case rel => exact ⟨k + 1, N + tq, by omega, by go_num, rfl, by omega, by omega, Go.Lib.hid (by rw [← HS.out]; exact HG.out), hbr, hA⟩
            case measure => simp [intOf]; omega
      · have hlt' : ¬ ((k : Int) < (L.length : Int)) := by omega
        have hke : k = L.length := by omega
        go_wp2
        go_ret2
        have := HG.out
        rw [hke, List.drop_length] at this
        exact ⟨by rw [← this]; rfl, hbr⟩
  · have hne : (chk L != 0) = true := by simpa using h0
    rw [show mostR L = 0 by simp [mostR, h0]]
    go_enter Try.func25, Try.ntmps25
    go_wp2_with fail
    refine (rcheck_any B A c L _ hA hB hl).mono ?_
    rintro e w1 ⟨rfl, hb1⟩
    go_wp2
    go_ret2
    exact ⟨rfl, hb1⟩

set_option maxHeartbeats 1000000 in
theorem Starts_any (B : Nat) (A : Option Addr) (c : Nat) (S : List Int) (gap : Int) (w : World) (hA : At B w A (ints S)) (hB : B ≤ w.heap.size) (hl : S.length ≤ 9000000000000000000) :
    Calls Try.prog 14 #[.slice A S.length c, .int .i64 gap] w (IntsE (startsR S gap) (startsE S gap) w) := by
  by_cases hbig : 1024 < S.length
  · rw [show startsE S gap = 4 by simp [startsE, hbig], show startsR S gap = [] by simp [startsR, startsE, hbig]]
    have hb : (1024 : Int) < (S.length : Int) := by omega
    go_enter Try.func14, Try.ntmps14
    go_wp2
    go_ret2
    exact IntsE.none (Below.refl _ _)
  · have hb : (S.length : Int) ≤ 1024 := by omega
    cases hgp : inB gap 0 16384
    all_goals
      have HGP := Go.Lib.hid hgp
      clear hgp
      go_enter Try.func14, Try.ntmps14
      go_wp2
      go_loop [13] (fun i => ∃ k : Nat, k ≤ S.length ∧ i = .int .i64 k ∧ Hid (okS (S.take k) = true)) (fun i => S.length - (intOf i).toNat)
      case atStart => exact ⟨0, by omega, rfl, Go.Lib.hid rfl⟩
      case round =>
        obtain ⟨k, hk, rfl, HP⟩ := hrel
        by_cases hlt : k < S.length
        · have hli : (k : Int) < (S.length : Int) := by omega
          obtain ⟨g, o, rfl, hg, c0⟩ := hA.int hlt
          have hsu := okS_take S k hlt
          have hno := fun h => okS_no (S := S) hlt h
          generalize S[k] = s at *
          have HS := Go.Lib.hid hsu
          have HN := Go.Lib.hid hno
          clear hsu hno
          cases hm : inB s 0 32768
          all_goals
            have HM := Go.Lib.hid hm
            clear hm
            go_wp2_with fail
            refine (within_any _ _ _ _).mono ?_
            rintro e w' ⟨rfl, rfl⟩
            have hm := HM.out
            go_wp2
            first
              | (go_round
                 case rel => exact ⟨k + 1, by omega, by go_num, Go.Lib.hid (by rw [HS.out, HP.out, HM.out]; rfl)⟩
                 case measure => simp [intOf]; omega)
              | (go_ret2
                 have hno := HN.out HM.out
                 rw [show startsE S gap = 2 by simp [startsE, hbig, hno], show startsR S gap = [] by simp [startsR, startsE, hbig, hno]]
                 exact IntsE.none (Below.refl _ _))
        · have hlt' : ¬ ((k : Int) < (S.length : Int)) := by omega
          have hke : k = S.length := by omega
          have hok : okS S = true := by
            have := HP.out
            rw [hke, List.take_length] at this
            exact this
          have HOK := Go.Lib.hid hok
          clear hok
          go_wp2_with fail
          refine (within_any _ _ _ _).mono ?_
          rintro e w' ⟨rfl, rfl⟩
          have hgp := HGP.out
          first
            | (have hz := HGP.out
               have hgz : 0 ≤ gap ∧ gap ≤ 16384 := (inB_iff _ _ _).1 hz
               have hS : ∀ n ∈ S, 0 ≤ n ∧ n ≤ 1000000000 := fun n hn => by
                 have := (inB_iff _ _ _).1 (List.all_eq_true.1 HOK.out n hn)
                 omega
               have HSS := Go.Lib.hid hS
               clear hS hz
               go_wp2_with fail
               refine (starts_any B _ _ S gap _ hA hB (by omega) HSS.out hgz).mono ?_
               rintro e w2 ⟨A2, c2, rfl, hown, hb2⟩
               have hgz2 := hgp
               clear hgp
               go_wp2
               go_ret2
               rw [show startsE S gap = 0 by simp [startsE, hbig, HOK.out, hgz2], show startsR S gap = startsL S gap by simp [startsR, startsE, hbig, HOK.out, hgz2]]
               exact ⟨A2, c2, rfl, hown, hb2⟩)
            | (go_wp2
               go_ret2
               have hgq := HGP.out
               rw [show startsE S gap = 2 by simp [startsE, hbig, hgq], show startsR S gap = [] by simp [startsR, startsE, hbig, hgq]]
               exact IntsE.none (Below.refl _ _))

set_option maxHeartbeats 1000000 in
theorem rStarts_any (B : Nat) (A : Option Addr) (c : Nat) (S : List Int) (gap : Int) (w : World) (hA : At B w A (ints S)) (hB : B ≤ w.heap.size) (hl : S.length ≤ 9000000000000000000) :
    Calls Try.prog 15 #[.slice A S.length c, .int .i64 gap] w (IntsE (startsR S gap) (startsE S gap) w) := by
  by_cases hbig : 1024 < S.length
  · rw [show startsE S gap = 4 by simp [startsE, hbig], show startsR S gap = [] by simp [startsR, startsE, hbig]]
    have hb : (1024 : Int) < (S.length : Int) := by omega
    go_enter Try.func15, Try.ntmps15
    go_wp2
    go_ret2
    exact IntsE.none (Below.refl _ _)
  · have hb : (S.length : Int) ≤ 1024 := by omega
    cases hgp : inB gap 0 16384
    all_goals
      have HGP := Go.Lib.hid hgp
      clear hgp
      go_enter Try.func15, Try.ntmps15
      go_wp2
      go_loop [6] (fun i => ∃ k : Nat, k ≤ S.length ∧ i = .int .i64 k ∧ Hid (okS (S.take k) = true)) (fun i => S.length - (intOf i).toNat)
      case atStart => exact ⟨0, by omega, rfl, Go.Lib.hid rfl⟩
      case round =>
        obtain ⟨k, hk, rfl, HP⟩ := hrel
        by_cases hlt : k < S.length
        · have hli : (k : Int) < (S.length : Int) := by omega
          obtain ⟨g, o, rfl, hg, c0⟩ := hA.int hlt
          have hsu := okS_take S k hlt
          have hno := fun h => okS_no (S := S) hlt h
          generalize S[k] = s at *
          have HS := Go.Lib.hid hsu
          have HN := Go.Lib.hid hno
          clear hsu hno
          cases hm : inB s 0 32768
          all_goals
            have HM := Go.Lib.hid hm
            clear hm
            go_wp2_with fail
            refine (room_any _ _).mono ?_
            rintro e w' ⟨rfl, rfl⟩
            have hm := HM.out
            go_wp2
            first
              | (go_round
                 case rel => exact ⟨k + 1, by omega, by go_num, Go.Lib.hid (by rw [HS.out, HP.out, HM.out]; rfl)⟩
                 case measure => simp [intOf]; omega)
              | (go_ret2
                 have hno := HN.out HM.out
                 rw [show startsE S gap = 2 by simp [startsE, hbig, hno], show startsR S gap = [] by simp [startsR, startsE, hbig, hno]]
                 exact IntsE.none (Below.refl _ _))
        · have hlt' : ¬ ((k : Int) < (S.length : Int)) := by omega
          have hke : k = S.length := by omega
          have hok : okS S = true := by
            have := HP.out
            rw [hke, List.take_length] at this
            exact this
          have HOK := Go.Lib.hid hok
          clear hok
          go_wp2_with fail
          refine (gaps_any _ _).mono ?_
          rintro e w' ⟨rfl, rfl⟩
          have hgp := HGP.out
          first
            | (have hz := HGP.out
               have hgz : 0 ≤ gap ∧ gap ≤ 16384 := (inB_iff _ _ _).1 hz
               have hS : ∀ n ∈ S, 0 ≤ n ∧ n ≤ 1000000000 := fun n hn => by
                 have := (inB_iff _ _ _).1 (List.all_eq_true.1 HOK.out n hn)
                 omega
               have HSS := Go.Lib.hid hS
               clear hS hz
               go_wp2_with fail
               refine (begins_any B _ _ S gap _ hA hB (by omega) HSS.out hgz).mono ?_
               rintro e w2 ⟨A2, c2, rfl, hown, hb2⟩
               have hgz2 := hgp
               clear hgp
               go_wp2
               go_ret2
               rw [show startsE S gap = 0 by simp [startsE, hbig, HOK.out, hgz2], show startsR S gap = startsL S gap by simp [startsR, startsE, hbig, HOK.out, hgz2]]
               exact ⟨A2, c2, rfl, hown, hb2⟩)
            | (go_wp2
               go_ret2
               have hgq := HGP.out
               rw [show startsE S gap = 2 by simp [startsE, hbig, hgq], show startsR S gap = [] by simp [startsR, startsE, hbig, hgq]]
               exact IntsE.none (Below.refl _ _))
end Go.Proofs.Ythannibclhidcaa
