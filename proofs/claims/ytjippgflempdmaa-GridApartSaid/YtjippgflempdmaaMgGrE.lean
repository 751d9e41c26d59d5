/- Layer 11: sizes, sums, tracks; both sides. -/
import Derived.Test.YtjippgflempdmaaMgGrD
namespace Go.Proofs.Ytjippgflempdmaa
set_option linter.unusedVariables false
set_option linter.unusedSimpArgs false
set_option maxRecDepth 100000
open Go.RowKit
attribute [local go_sem] max_fold min_fold

def wsL (L : List T2) : List Int := L.map T2.p
def hsL (L : List T2) : List Int := L.map T2.q
def inS (s : T2) : Bool := inN 16384 s.p && inN 16384 s.q
def szE (L : List T2) : Int := if 1024 < L.length then 4 else if L.all inS then 0 else 2
theorem szE_no {L : List T2} (h : ¬ 1024 < L.length) {k : Nat} (hk : k < L.length) (hn : inS L[k] = false) : szE L = 2 := by
  unfold szE
  rw [if_neg h, if_neg]
  intro ha
  have := List.all_eq_true.1 ha L[k] (List.getElem_mem hk)
  rw [hn] at this
  cases this
theorem szE_yes {L : List T2} (h : ¬ 1024 < L.length) (hn : ∀ v ∈ L, inS v = true) : szE L = 0 := by
  unfold szE
  rw [if_neg h, if_pos (List.all_eq_true.2 hn)]
theorem szE_ok {L : List T2} (h : szE L = 0) : L.length ≤ 1024 ∧ ∀ v ∈ L, (0 ≤ v.p ∧ v.p ≤ 16384) ∧ (0 ≤ v.q ∧ v.q ≤ 16384) := by
  unfold szE at h
  split at h
  · omega
  · split at h
    · rename_i h1 h2
      refine ⟨by omega, fun v hv => ?_⟩
      have := List.all_eq_true.1 h2 v hv
      simpa [inS, inN] using this
    · omega
theorem takes_in {X : List T2} {k : Nat} (h : ∀ v ∈ X.take k, inS v = true) (hk : k < X.length) (hn : inS X[k] = true) : ∀ v ∈ X.take (k + 1), inS v = true := by
  intro v hv
  rw [List.take_succ_eq_append_getElem hk] at hv
  rcases List.mem_append.1 hv with hv | hv
  · exact h v hv
  · simp at hv
    rw [hv]
    exact hn
theorem ask_two (L : List T2) (h : ¬ 1024 < L.length) : askE [numE 16384 (wsL L), numE 16384 (hsL L)] = szE L := by
  have hw : (wsL L).length = L.length := by simp [wsL]
  have hh : (hsL L).length = L.length := by simp [hsL]
  unfold numE szE
  rw [hw, hh, if_neg h, if_neg h, if_neg h]
  by_cases h1 : (wsL L).all (inN 16384) = true
  · rw [if_pos h1]
    by_cases h2 : (hsL L).all (inN 16384) = true
    · rw [if_pos h2, if_pos]
      · rfl
      · refine List.all_eq_true.2 fun v hv => ?_
        have a1 := List.all_eq_true.1 h1 v.p (List.mem_map.2 ⟨v, hv, rfl⟩)
        have a2 := List.all_eq_true.1 h2 v.q (List.mem_map.2 ⟨v, hv, rfl⟩)
        simp [inS, a1, a2]
    · rw [if_neg h2, if_neg]
      · rfl
      · intro ha
        refine h2 (List.all_eq_true.2 fun x hx => ?_)
        obtain ⟨v, hv, rfl⟩ := List.mem_map.1 hx
        have := List.all_eq_true.1 ha v hv
        simp only [inS, Bool.and_eq_true] at this
        exact this.2
  · have hL : ¬ L.all inS = true := by
      intro ha
      refine h1 (List.all_eq_true.2 fun x hx => ?_)
      obtain ⟨v, hv, rfl⟩ := List.mem_map.1 hx
      have := List.all_eq_true.1 ha v hv
      simp only [inS, Bool.and_eq_true] at this
      exact this.1
    rw [if_neg h1, if_neg hL]
    rfl
theorem num_two (a b : Int) : numE 16384 [a, b] = if inS ⟨a, b⟩ then 0 else 2 := by
  unfold numE inS
  simp
theorem numbers_two (g : Nat) (a b : Int) (w : World) {t : TypeId} (h : w.heap[g]? = some (.cells #[.int .i64 a, .int .i64 b] t (0, 0))) : Calls Try.prog 32 #[.int .i64 16384, .slice (some ⟨g, 0, none⟩) 2 2] w fun e w' => e = .returned (.int .i64 (if inS ⟨a, b⟩ then 0 else 2)) ∧ w = w' := by
  have h2 : At w.heap.size w (some ⟨g, 0, none⟩) (ints [a, b]) := At.block (t := t) (by simpa [ints] using h)
  have := numbers_any _ _ 2 16384 [a, b] _ h2 (by simp)
  rw [num_two] at this
  exact this

set_option maxRecDepth 100000 in
set_option maxHeartbeats 2000000 in
theorem sized_any (B : Nat) (A : Option Addr) (c : Nat) (L : List T2) (w : World) (hA : At B w A (t2s L)) (hB : B ≤ w.heap.size) (hl : L.length ≤ 9000000000000000000) :
    Calls Try.prog 64 #[.slice A L.length c] w fun e w' => e = .returned (.int .i64 (szE L)) ∧ Below w.heap.size w w' := by
  by_cases hbig : 1024 < L.length
  · have hb : (1024 : Int) < (L.length : Int) := by omega
    rw [show szE L = 4 by unfold szE; rw [if_pos hbig]]
    clear hbig
    go_enter Try.func64, Try.ntmps64
    go_wp2
    go_ret
    exact ⟨rfl, Below.refl _ _⟩
  · have hb : ¬ (1024 : Int) < (L.length : Int) := by omega
    have hl2 : L.length ≤ 1024 := by omega
    have HN : Hid (∀ k (hk : k < L.length), inS L[k] = false → szE L = 2) := Go.Lib.hid fun k hk h => szE_no hbig hk h
    have HY : Hid ((∀ v ∈ L, inS v = true) → szE L = 0) := Go.Lib.hid fun h => szE_yes hbig h
    obtain ⟨E, hE⟩ : ∃ E, szE L = E := ⟨_, rfl⟩
    rw [hE] at HN HY ⊢
    clear hbig hE hl
    go_enter Try.func64, Try.ntmps64
    go_wp2
    go_loopw [11] (fun i wr => ∃ k : Nat, k ≤ L.length ∧ i = .int .i64 k ∧ Hid ((∀ v ∈ L.take k, inS v = true) ∧ Below w.heap.size w wr)) (fun i _ => L.length - (intOf i).toNat)
    case atStart => exact ⟨0, by omega, rfl, Go.Lib.hid ⟨fun v hv => by simp at hv, Below.refl _ _⟩⟩
    case round =>
      obtain ⟨k, hk, rfl, HP⟩ := hrel
      have hsr := HP.out.2.size
      by_cases hlt : k < L.length
      · have hli : (k : Int) < (L.length : Int) := by omega
        obtain ⟨g, o, rfl, hg, x1, x2⟩ := (hA.below (HP.out.2.mono hB)).t2 hlt
        have HT : Hid (inS L[k] = true → ∀ v ∈ L.take (k + 1), inS v = true) := Go.Lib.hid fun h => takes_in HP.out.1 hlt h
        have HN2 := Go.Lib.hid (HN.out k hlt)
        have lg := World.block_lt_of_cell? _ _ x1
        clear hA
        generalize L[k] = v at *
        obtain ⟨vp, vq⟩ := v
        simp only at x1 x2
        by_cases hs : inS ⟨vp, vq⟩ = true
        · have HS : Hid (∀ (g : Nat) (w : World) (t : TypeId), w.heap[g]? = some (.cells #[.int .i64 vp, .int .i64 vq] t (0, 0)) → Calls Try.prog 32 #[.int .i64 16384, .slice (some ⟨g, 0, none⟩) 2 2] w fun e w' => e = .returned (.int .i64 0) ∧ w = w') := Go.Lib.hid fun g w t h => by
            have := numbers_two g vp vq w h
            rwa [if_pos hs] at this
          have HT2 := Go.Lib.hid (HT.out hs)
          clear HT HN2 hs
          go_wp2_with fail
          refine (HS.out (wr.heap.size + 1) _ _ (alloc_two _ _ _)).mono ?_
          rintro e w4 ⟨rfl, hw4⟩
          have H4 : Hid (Below w.heap.size w w4) := Go.Lib.hid (hw4 ▸ (HP.out.2.alloc hsr _).alloc (by simp; omega) _)
          clear hw4 HS x1 x2 HP
          go_wp2
          go_roundw
          case rel => exact ⟨k + 1, by omega, by go_num, Go.Lib.hid ⟨HT2.out, H4.out⟩⟩
          case measure => simp [intOf]; omega
        · have hs2 : inS ⟨vp, vq⟩ = false := by simpa using hs
          have HS : Hid (∀ (g : Nat) (w : World) (t : TypeId), w.heap[g]? = some (.cells #[.int .i64 vp, .int .i64 vq] t (0, 0)) → Calls Try.prog 32 #[.int .i64 16384, .slice (some ⟨g, 0, none⟩) 2 2] w fun e w' => e = .returned (.int .i64 2) ∧ w = w') := Go.Lib.hid fun g w t h => by
            have := numbers_two g vp vq w h
            rwa [if_neg hs] at this
          have hz := HN2.out hs2
          subst hz
          clear HT HN2 hs hs2
          go_wp2_with fail
          refine (HS.out (wr.heap.size + 1) _ _ (alloc_two _ _ _)).mono ?_
          rintro e w4 ⟨rfl, hw4⟩
          have H4 : Hid (Below w.heap.size w w4) := Go.Lib.hid (hw4 ▸ (HP.out.2.alloc hsr _).alloc (by simp; omega) _)
          clear hw4 HS x1 x2 HP
          go_wp2
          go_ret
          exact ⟨rfl, H4.out⟩
      · have hlt' : ¬ ((k : Int) < (L.length : Int)) := by omega
        have hkx : k = L.length := by omega
        have hz := HY.out (by have := HP.out.1; rw [hkx, List.take_length] at this; exact this)
        have hbz := HP.out.2
        subst hz
        clear HP
        go_wp2
        go_ret
        exact ⟨rfl, hbz⟩
end Go.Proofs.Ytjippgflempdmaa

/- Layer 11: sides, sums, what is used, tracks. -/
namespace Go.Proofs.Ytjippgflempdmaa
set_option linter.unusedVariables false
set_option linter.unusedSimpArgs false
set_option maxRecDepth 100000
open Go.RowKit
attribute [local go_sem] max_fold min_fold

/-- Two lists of numbers while they are made. -/
structure TwoSt (w : World) (l1 l2 : List Int) (v1 v2 : Value) (wr : World) : Prop where
  o1 : wr.ownsRow w.heap.size 3 1 v1 l1.length (ints l1)
  o2 : wr.ownsRow w.heap.size 3 1 v2 l2.length (ints l2)
  ap : ∀ k, v1.ownBlock = some k → v2.ownBlock ≠ some k
  below : Below w.heap.size w wr
theorem TwoSt.push1 {w wr w4 : World} {l1 l2 : List Int} {v1 v2 v3 : Value} {x : Int} (H : TwoSt w l1 l2 v1 v2 wr) (o : Obj) (hg : (wr.alloc o).grownBy w4 v1.ownBlock) (h : w4.ownsRow w.heap.size 3 1 v3 (l1.length + 1) (ints (l1 ++ [x]))) (hl : v3.ownBlock = v1.ownBlock ∨ v3.ownBlock = some (wr.heap.size + 1)) : TwoSt w (l1 ++ [x]) l2 v3 v2 w4 := by
  refine ⟨by rw [List.length_append]; exact h, own_apart (H.o2.alloc o) hg fun k hk e => H.ap k e hk, fun k hk e => ?_, ?_⟩
  · rcases hl with e2 | e2
    · exact H.ap k (e2 ▸ hk) e
    · rw [e2] at hk
      have := (H.o2.lt k e).2
      have := Option.some.inj hk
      omega
  · exact (H.below.alloc H.below.size o).grown hg (by have := H.below.size; simp; omega) (own_ge H.o1)
theorem TwoSt.push2 {w wr w4 : World} {l1 l2 : List Int} {v1 v2 v3 : Value} {x : Int} (H : TwoSt w l1 l2 v1 v2 wr) (o : Obj) (hg : (wr.alloc o).grownBy w4 v2.ownBlock) (h : w4.ownsRow w.heap.size 3 1 v3 (l2.length + 1) (ints (l2 ++ [x]))) (hl : v3.ownBlock = v2.ownBlock ∨ v3.ownBlock = some (wr.heap.size + 1)) : TwoSt w l1 (l2 ++ [x]) v1 v3 w4 := by
  refine ⟨own_apart (H.o1.alloc o) hg fun k hk e => H.ap k hk e, by rw [List.length_append]; exact h, fun k hk e => ?_, ?_⟩
  · rcases hl with e2 | e2
    · exact H.ap k hk (e2 ▸ e)
    · rw [e2] at e
      have := (H.o1.lt k hk).2
      have := Option.some.inj e
      omega
  · exact (H.below.alloc H.below.size o).grown hg (by have := H.below.size; simp; omega) (own_ge H.o2)
def SidesPost (L : List T2) (n : Nat) (w : World) (e : Ending) (w' : World) : Prop := ∃ A1 c1 A2 c2, e = .returned (.tuple #[.slice A1 n c1, .slice A2 n c2]) ∧ TwoSt w (wsL L) (hsL L) (.slice A1 n c1) (.slice A2 n c2) w'
theorem ws_len (L : List T2) : (wsL L).length = L.length := by simp [wsL]
theorem hs_len (L : List T2) : (hsL L).length = L.length := by simp [hsL]
theorem ws_take {L : List T2} {k : Nat} (h : k < L.length) : wsL (L.take (k + 1)) = wsL (L.take k) ++ [L[k].p] := by
  unfold wsL
  rw [List.take_succ_eq_append_getElem h, List.map_append]
  rfl
theorem hs_take {L : List T2} {k : Nat} (h : k < L.length) : hsL (L.take (k + 1)) = hsL (L.take k) ++ [L[k].q] := by
  unfold hsL
  rw [List.take_succ_eq_append_getElem h, List.map_append]
  rfl

set_option maxRecDepth 100000 in
set_option maxHeartbeats 2000000 in
theorem rsides_any (B : Nat) (A : Option Addr) (c : Nat) (L : List T2) (w : World) (hA : At B w A (t2s L)) (hB : B ≤ w.heap.size) (hl : L.length ≤ 100000) :
    Calls Try.prog 52 #[.slice A L.length c] w (SidesPost L L.length w) := by
  obtain ⟨N, hN⟩ : ∃ N, L.length = N := ⟨_, rfl⟩
  rw [hN] at hl ⊢
  have HN := Go.Lib.hid hN
  clear hN
  go_enter Try.func52, Try.ntmps52
  go_wp2
  go_loopw [4, 5, 6] (fun a_ b_ i_ wr => ∃ k : Nat, k ≤ N ∧ i_ = .int .i64 k ∧ Hid (TwoSt w (wsL (L.take k)) (hsL (L.take k)) a_ b_ wr)) (fun _ _ i_ _ => N - (intOf i_).toNat)
  case atStart => exact ⟨0, by omega, rfl, Go.Lib.hid ⟨World.ownsRow_nil _ _ _ _, World.ownsRow_nil _ _ _ _, fun k h => by simp [Value.ownBlock] at h, Below.refl _ _⟩⟩
  case round =>
    obtain ⟨k, hk, rfl, H⟩ := hrel
    have hsr := H.out.below.size
    have hwl : (wsL (L.take k)).length = k := by rw [ws_len, List.length_take, HN.out]; omega
    have hhl : (hsL (L.take k)).length = k := by rw [hs_len, List.length_take, HN.out]; omega
    by_cases hlt : k < N
    · have hli : (k : Int) < (N : Int) := by omega
      have hkl : k < L.length := by have := HN.out; omega
      obtain ⟨g, o, rfl, hg, x1, x2⟩ := (hA.below (H.out.below.mono hB)).t2 hkl
      have HT1 := Go.Lib.hid (ws_take hkl)
      have HT2 := Go.Lib.hid (hs_take hkl)
      have HWL := Go.Lib.hid hwl
      have HHL := Go.Lib.hid hhl
      have lg := World.block_lt_of_cell? _ _ x1
      clear hwl hhl
      generalize L[k] = v at *
      obtain ⟨vp, vq⟩ := v
      simp only at x1 x2 HT1 HT2
      generalize wsL (L.take k) = l1 at *
      generalize hsL (L.take k) = l2 at *
      go_wp2_with (first | (at_builtin; refine append_num rfl (.tmp 13) (.tmp 19) rfl w.heap.size _ l1 vp wr.heap.size rfl rfl (H.out.o1.alloc _) (by simp [go_sem]) ?_ ?_ ?_))
      · rw [HWL.out]; omega
      · (try simp); omega
      intro v3 w4 hown4 hg4 hl4
      have H4 := Go.Lib.hid (H.out.push1 _ hg4 (own_len' hown4 (by first | rfl | (rw [List.length_append]; rfl))) hl4)
      have hb4 : Below wr.heap.size wr w4 ∨ True := .inr trivial
      have x2' : w4.cell? ⟨g, o + k * 2 + 1, none⟩ = some (.int .i64 vq) := by
        have h1 := (H4.out.below).cell (p := ⟨g, o + k * 2 + 1, none⟩) (Nat.lt_of_lt_of_le hg hB)
        have h2 := (H.out.below).cell (p := ⟨g, o + k * 2 + 1, none⟩) (Nat.lt_of_lt_of_le hg hB)
        rw [h1, ← h2]
        exact x2
      have hsr4 := H4.out.below.size
      have lg4 := World.block_lt_of_cell? _ _ x2'
      clear hown4 hg4 hl4 H hb4 x1 x2 lg hsr
      go_wp2_with (first | (at_builtin; refine append_num rfl (.tmp 21) (.tmp 27) rfl w.heap.size _ l2 vq w4.heap.size rfl rfl (H4.out.o2.alloc _) (by simp [go_sem]) ?_ ?_ ?_))
      · rw [HHL.out]; omega
      · (try simp); omega
      intro v5 w6 hown6 hg6 hl6
      have H6 := Go.Lib.hid (H4.out.push2 _ hg6 (own_len' hown6 (by first | rfl | (rw [List.length_append]; rfl))) hl6)
      rw [← HT1.out, ← HT2.out] at H6
      clear hown6 hg6 hl6 H4 x2' lg4 hsr4
      go_wp2
      go_roundw
      case rel => exact ⟨k + 1, by omega, by go_num, H6⟩
      case measure => simp [intOf]; omega
    · have hlt' : ¬ ((k : Int) < (N : Int)) := by omega
      have hkn : k = N := by omega
      subst hkn
      have ht : L.take k = L := by rw [← HN.out, List.take_length]
      rw [ht] at H
      obtain ⟨A1, c1, rfl⟩ := own_shape (own_len' H.out.o1 (show _ = k by rw [ws_len, HN.out]))
      obtain ⟨A2, c2, rfl⟩ := own_shape (own_len' H.out.o2 (show _ = k by rw [hs_len, HN.out]))
      clear ht hwl hhl
      go_wp2
      go_ret2
      exact ⟨A1, c1, A2, c2, rfl, H.out⟩

set_option maxRecDepth 100000 in
set_option maxHeartbeats 2000000 in
theorem rsized_any (B : Nat) (A : Option Addr) (c : Nat) (L : List T2) (w : World) (hA : At B w A (t2s L)) (hB : B ≤ w.heap.size) (hl : L.length ≤ 9000000000000000000) :
    Calls Try.prog 51 #[.slice A L.length c] w fun e w' => e = .returned (.int .i64 (szE L)) ∧ Below w.heap.size w w' := by
  by_cases hbig : 1024 < L.length
  · have hb : (1024 : Int) < (L.length : Int) := by omega
    rw [show szE L = 4 by unfold szE; rw [if_pos hbig]]
    clear hbig
    go_enter Try.func51, Try.ntmps51
    go_wp2
    go_ret
    exact ⟨rfl, Below.refl _ _⟩
  · have hb : ¬ (1024 : Int) < (L.length : Int) := by omega
    have HS := Go.Lib.hid (rsides_any B A c L w hA hB (by omega))
    have HE := Go.Lib.hid (ask_two L hbig)
    have hwl := ws_len L
    have hhl := hs_len L
    obtain ⟨N, hN⟩ : ∃ N, L.length = N := ⟨_, rfl⟩
    rw [hN] at HS hb hwl hhl ⊢
    have HW : Hid (∀ B A c w, At B w A (ints (wsL L)) → Calls Try.prog 46 #[.slice A N c, .int .i64 16384] w fun e w' => e = .returned (.int .i64 (numE 16384 (wsL L))) ∧ w = w') := Go.Lib.hid fun B A c w h => by
      have := reach_any B A c 16384 (wsL L) w h (by omega)
      rwa [hwl] at this
    have HH : Hid (∀ B A c w, At B w A (ints (hsL L)) → Calls Try.prog 46 #[.slice A N c, .int .i64 16384] w fun e w' => e = .returned (.int .i64 (numE 16384 (hsL L))) ∧ w = w') := Go.Lib.hid fun B A c w h => by
      have := reach_any B A c 16384 (hsL L) w h (by omega)
      rwa [hhl] at this
    generalize numE 16384 (wsL L) = e1 at *
    generalize numE 16384 (hsL L) = e2 at *
    generalize szE L = E at *
    have HWL := Go.Lib.hid hwl
    have HHL := Go.Lib.hid hhl
    clear hwl hhl hA hbig hl
    go_enter Try.func51, Try.ntmps51
    go_wp2_with fail
    refine HS.out.mono ?_
    rintro e w1 ⟨A1, c1, A2, c2, rfl, H⟩
    have h1 := At.of_own (own_len' H.o1 HWL.out)
    have h2 := At.of_own (own_len' H.o2 HHL.out)
    have hb1 := H.below
    have hs1 := hb1.size
    clear H HS
    go_wp2_with fail
    refine (HW.out _ _ _ _ h1).mono ?_
    rintro e w' ⟨rfl, rfl⟩
    go_wp2_with fail
    refine (HH.out _ _ _ _ h2).mono ?_
    rintro e w' ⟨rfl, rfl⟩
    clear h1 h2
    go_wp2_with fail
    refine (rfirst_at w1.heap.size [e1, e2] 2 _ (alloc_at _ _) rfl rfl (by omega)).mono ?_
    rintro e w2 ⟨rfl, hw2⟩
    have hb2 : Below w.heap.size w w2 := hw2 ▸ hb1.alloc hs1 _
    clear hw2
    rw [HE.out]
    go_wp2
    go_ret
    exact ⟨rfl, hb2⟩
end Go.Proofs.Ytjippgflempdmaa

/- Layer 11: sums, what is used. -/
namespace Go.Proofs.Ytjippgflempdmaa
set_option linter.unusedVariables false
set_option linter.unusedSimpArgs false
set_option maxRecDepth 100000
open Go.RowKit
attribute [local go_sem] max_fold min_fold

def psum (l : List Int) : Nat → Int
  | 0 => 0
  | k + 1 => psum l k + l.getD k 0
def wholeP (l : List Int) (gap many : Int) : Int := max (many - 1) 0 * gap + psum l l.length
def okN (l : List Int) : Prop := ∀ v ∈ l, 0 ≤ v ∧ v ≤ 16384
theorem okN_at {l : List Int} (h : okN l) (k : Nat) : 0 ≤ l.getD k 0 ∧ l.getD k 0 ≤ 16384 := by
  by_cases hk : k < l.length
  · rw [show l.getD k 0 = l[k] by simp [List.getD, hk]]
    exact h _ (List.getElem_mem hk)
  · rw [show l.getD k 0 = 0 by simp [List.getD, show l.length ≤ k by omega]]
    omega
theorem psum_bd {l : List Int} (h : okN l) : ∀ k, 0 ≤ psum l k ∧ psum l k ≤ 16384 * (k : Int) := by
  intro k
  induction k with
  | zero => show 0 ≤ (0 : Int) ∧ (0 : Int) ≤ _; omega
  | succ k ih =>
    have := okN_at h k
    show 0 ≤ psum l k + l.getD k 0 ∧ psum l k + l.getD k 0 ≤ _
    omega
theorem many_bd {gap many : Int} (hg : 0 ≤ gap ∧ gap ≤ 16384) (hm : many ≤ 1024) : 0 ≤ max (many - 1) 0 * gap ∧ max (many - 1) 0 * gap ≤ 16777216 := by
  have := gap_bd hg (n := max (many - 1) 0) (by omega)
  rw [Int.mul_comm] at this
  exact this

set_option maxRecDepth 100000 in
set_option maxHeartbeats 2000000 in
theorem whole_any (B : Nat) (A : Option Addr) (c : Nat) (l : List Int) (gap : Int) (w : World) (hA : At B w A (ints l)) (hl : l.length ≤ 1024) (hok : okN l) (hg : 0 ≤ gap ∧ gap ≤ 16384) :
    Calls Try.prog 40 #[.slice A l.length c, .int .i64 gap] w fun e w' => e = .returned (.int .i64 (wholeP l gap l.length)) ∧ w = w' := by
  have hmb := many_bd hg (many := l.length) (by omega)
  have HP := Go.Lib.hid (fun k => psum_bd hok k)
  have HR : Hid (wholeP l gap l.length = max ((l.length : Int) - 1) 0 * gap + psum l l.length) := Go.Lib.hid rfl
  have HS : Hid (∀ k (hk : k < l.length), psum l (k + 1) = psum l k + l[k]) := Go.Lib.hid fun k hk => by
    show psum l k + l.getD k 0 = _
    rw [show l.getD k 0 = l[k] by simp [List.getD, hk]]
  have HOK := Go.Lib.hid hok
  clear hok
  go_enter Try.func40, Try.ntmps40
  go_wp2
  go_loop [5, 7, 16] (fun s_ _ i => ∃ k : Nat, k ≤ l.length ∧ i = .int .i64 k ∧ s_ = .int .i64 (max ((l.length : Int) - 1) 0 * gap + psum l k)) (fun _ _ i => l.length - (intOf i).toNat)
  case atStart => exact ⟨0, by omega, rfl, by simp [psum]⟩
  case round =>
    obtain ⟨k, hk, rfl, rfl⟩ := hrel
    have hp := HP.out k
    by_cases hlt : k < l.length
    · have hli : (k : Int) < (l.length : Int) := by omega
      obtain ⟨g, o, rfl, hg, x1⟩ := hA.int hlt
      have hv := HOK.out l[k] (List.getElem_mem hlt)
      have HS2 := Go.Lib.hid (HS.out k hlt)
      generalize l[k] = v at *
      generalize psum l k = p at *
      clear hA
      go_wp2
      go_round
      case rel => exact ⟨k + 1, by omega, by go_num, by rw [HS2.out]; simp [Int.add_assoc]⟩
      case measure => simp [intOf]; omega
    · have hlt' : ¬ ((k : Int) < (l.length : Int)) := by omega
      have hkx : k = l.length := by omega
      have HF : Hid (max ((l.length : Int) - 1) 0 * gap + psum l k = wholeP l gap l.length) := Go.Lib.hid (by rw [hkx, HR.out])
      clear hkx
      go_wp2
      go_ret
      exact ⟨ret_int HF.out, rfl⟩

set_option maxRecDepth 100000 in
set_option maxHeartbeats 2000000 in
theorem rsum_any (B : Nat) (A : Option Addr) (c : Nat) (l : List Int) (many gap : Int) (w : World) (hA : At B w A (ints l)) (hl : l.length ≤ 1024) (hok : okN l) (hg : 0 ≤ gap ∧ gap ≤ 16384) (hm : 0 ≤ many ∧ many ≤ 1024) :
    Calls Try.prog 53 #[.slice A l.length c, .int .i64 many, .int .i64 gap] w fun e w' => e = .returned (.int .i64 (wholeP l gap many)) ∧ w = w' := by
  have hmb := many_bd hg (many := many) (by omega)
  have HP := Go.Lib.hid (fun k => psum_bd hok k)
  have HR : Hid (wholeP l gap many = max (many - 1) 0 * gap + psum l l.length) := Go.Lib.hid rfl
  have HS : Hid (∀ k (hk : k < l.length), psum l (k + 1) = psum l k + l[k]) := Go.Lib.hid fun k hk => by
    show psum l k + l.getD k 0 = _
    rw [show l.getD k 0 = l[k] by simp [List.getD, hk]]
  have HOK := Go.Lib.hid hok
  clear hok
  go_enter Try.func53, Try.ntmps53
  go_wp2
  go_loop [7, 8] (fun s_ i => ∃ k : Nat, k ≤ l.length ∧ i = .int .i64 k ∧ s_ = .int .i64 (max (many - 1) 0 * gap + psum l k)) (fun _ i => l.length - (intOf i).toNat)
  case atStart => exact ⟨0, by omega, rfl, by simp [psum]⟩
  case round =>
    obtain ⟨k, hk, rfl, rfl⟩ := hrel
    have hp := HP.out k
    by_cases hlt : k < l.length
    · have hli : (k : Int) < (l.length : Int) := by omega
      obtain ⟨g, o, rfl, hg, x1⟩ := hA.int hlt
      have hv := HOK.out l[k] (List.getElem_mem hlt)
      have HS2 := Go.Lib.hid (HS.out k hlt)
      generalize l[k] = v at *
      generalize psum l k = p at *
      clear hA
      go_wp2
      go_round
      case rel => exact ⟨k + 1, by omega, by go_num, by rw [HS2.out]; simp [Int.add_assoc]⟩
      case measure => simp [intOf]; omega
    · have hlt' : ¬ ((k : Int) < (l.length : Int)) := by omega
      have hkx : k = l.length := by omega
      have HF : Hid (max (many - 1) 0 * gap + psum l k = wholeP l gap many) := Go.Lib.hid (by rw [hkx, HR.out])
      clear hkx
      go_wp2
      go_ret
      exact ⟨ret_int HF.out, rfl⟩

def useP (n : Int) (S : List Int) : Nat → Int
  | 0 => 0
  | i + 1 => max (useP n S i) (colP n S i + wideP n S i)
theorem use_bd {n : Int} (hn : 1 ≤ n) (S : List Int) : ∀ i, 0 ≤ useP n S i ∧ useP n S i ≤ n := by
  intro i
  induction i with
  | zero => show 0 ≤ (0 : Int) ∧ (0 : Int) ≤ n; omega
  | succ i ih =>
    have h1 := col_bd hn S i
    have h2 := wide_bd hn S i
    show 0 ≤ max (useP n S i) _ ∧ max (useP n S i) _ ≤ n
    omega
theorem use_ge {n : Int} {S : List Int} {i N : Nat} (h : i < N) : colP n S i + wideP n S i ≤ useP n S N := by
  induction N with
  | zero => omega
  | succ N ih =>
    show _ ≤ max (useP n S N) _
    by_cases e : i = N
    · subst e; omega
    · have := ih (by omega); omega

set_option maxRecDepth 100000 in
set_option maxHeartbeats 2000000 in
theorem rused_any (B : Nat) (A A2 : Option Addr) (c c2 : Nat) (n : Int) (S : List Int) (N : Nat) (w : World) (hA : At B w A (t2s (ptsL n S N))) (hA2 : At B w A2 (ints (wdsL n S N))) (hB : B ≤ w.heap.size) (hN : N ≤ 1024) (hn : 1 ≤ n) (hn2 : n ≤ 64) :
    Calls Try.prog 54 #[.slice A N c, .slice A2 N c2] w fun e w' => e = .returned (.int .i64 (useP n S N)) ∧ Below w.heap.size w w' := by
  go_enter Try.func54, Try.ntmps54
  go_wp2
  go_loopw [5, 6] (fun s_ i wr => ∃ k : Nat, k ≤ N ∧ i = .int .i64 k ∧ s_ = .int .i64 (useP n S k) ∧ Hid (Below w.heap.size w wr)) (fun _ i _ => N - (intOf i).toNat)
  case atStart => exact ⟨0, by omega, rfl, rfl, Go.Lib.hid (Below.refl _ _)⟩
  case round =>
    obtain ⟨k, hk, rfl, rfl, H⟩ := hrel
    have hub := use_bd hn S k
    by_cases hlt : k < N
    · have hli : (k : Int) < (N : Int) := by omega
      have hkp : k < (ptsL n S N).length := by rw [ptsL_len]; exact hlt
      have hkw : k < (wdsL n S N).length := by rw [wdsL_len]; exact hlt
      obtain ⟨g1, o1, rfl, hg1, c0, c1⟩ := (hA.below (H.out.mono hB)).t2 hkp
      obtain ⟨g2, o2, rfl, hg2, c2'⟩ := (hA2.below (H.out.mono hB)).int hkw
      rw [show (ptsL n S N)[k] = ⟨colP n S k, (rowP n S k : Int)⟩ by simp [ptsL]] at c0
      rw [show (wdsL n S N)[k] = wideP n S k by simp [wdsL]] at c2'
      have hcb := col_bd hn S k
      have hwb := wide_bd hn S k
      have HU : Hid (useP n S (k + 1) = max (useP n S k) (colP n S k + wideP n S k)) := Go.Lib.hid rfl
      clear hkp hkw hA hA2 c1
      generalize colP n S k = X at *
      generalize wideP n S k = wd at *
      generalize useP n S k = u at *
      have lg1 := World.block_lt_of_cell? _ _ c0
      have lg2 := World.block_lt_of_cell? _ _ c2'
      go_wp2
      refine region_ext mixed (by kernel_rfl) ?_
      (repeat (go_big_quiet_step (fail)))
      refine wpQuiet_nil ?_
      intro w1 hb1
      go_wp2
      go_roundw
      case rel => exact ⟨k + 1, by omega, by go_num, by rw [HU.out], Go.Lib.hid (H.out.trans (hb1.mono H.out.size))⟩
      case measure => simp [intOf]; omega
    · have hlt' : ¬ ((k : Int) < (N : Int)) := by omega
      have hkn : k = N := by omega
      subst hkn
      clear hA hA2
      go_wp2
      go_ret
      exact ⟨rfl, H.out⟩
end Go.Proofs.Ytjippgflempdmaa

/- Layer 11: columns that nobody uses have no width; sums; tracks that may be. -/
namespace Go.Proofs.Ytjippgflempdmaa
set_option linter.unusedVariables false
set_option linter.unusedSimpArgs false
set_option maxRecDepth 100000
open Go.RowKit

theorem edge_step {m : Nat} {S D : List Int} {gap : Int} {N : Nat} (h : WidOk m S D gap N) {v : Nat} (hv : v < m) (hp : 0 < (edgeL m S D gap N).getD (v + 1) 0) :
    (edgeL m S D gap N).getD (v + 1) 0 = (edgeL m S D gap N).getD v 0 ∨ ∃ i, i < N ∧ colP m S i + wideP m S i = ((v + 1 : Nat) : Int) ∧ (edgeL m S D gap N).getD (v + 1) 0 = (edgeL m S D gap N).getD (colP m S i).toNat 0 + farP m S D gap i := by
  obtain ⟨j, hj, hq, ht⟩ := (edge_ok h).b.held (v + 1) (by omega) hp
  rw [bndL_len] at hj
  by_cases hjm : j < m
  · unfold qn at hq
    unfold tightB at ht
    rw [bk_one hjm] at hq ht
    simp only at hq ht
    left
    have e1 : ((j : Int) + 1).toNat = j + 1 := by omega
    have e2 : j = v := by omega
    subst e2
    simp only [gi, e1, beq_iff_eq, Int.toNat_natCast] at ht
    omega
  · right
    obtain ⟨i, hi⟩ : ∃ i, j = m + i := ⟨j - m, by omega⟩
    subst hi
    have hiN : i < N := by omega
    unfold qn at hq
    unfold tightB at ht
    rw [bk_two hiN] at hq ht
    simp only [bndP] at hq ht
    have h1 := col_bd (show (1 : Int) ≤ m by have := h.m1; omega) S i
    have h2 := wide_bd (show (1 : Int) ≤ m by have := h.m1; omega) S i
    refine ⟨i, hiN, by omega, ?_⟩
    simp only [gi, hq, beq_iff_eq] at ht
    omega
theorem edge_mono {m : Nat} {S D : List Int} {gap : Int} {N : Nat} (h : WidOk m S D gap N) {a b : Nat} (hab : a ≤ b) (hb : b ≤ m) : (edgeL m S D gap N).getD a 0 ≤ (edgeL m S D gap N).getD b 0 := by
  induction b with
  | zero => rw [show a = 0 by omega]; exact Int.le_refl _
  | succ b ih =>
    by_cases e : a = b + 1
    · rw [e]; exact Int.le_refl _
    · have h1 := ih (by omega) (by omega)
      have h2 := wid_ge h (show b < m by omega)
      omega
theorem wid_most {m : Nat} {S D : List Int} {gap : Int} {N : Nat} (h : WidOk m S D gap N) {v : Nat} (hv : v < m) : (edgeL m S D gap N).getD (v + 1) 0 ≤ (edgeL m S D gap N).getD v 0 + 16384 := by
  have h0 := edge_bd h (show v < m + 1 by omega)
  by_cases hp : 0 < (edgeL m S D gap N).getD (v + 1) 0
  · rcases edge_step h hv hp with e | ⟨i, hi, h1, h2⟩
    · omega
    · have hm1 : (1 : Int) ≤ m := by have := h.m1; omega
      have h3 := wide_bd hm1 S i
      have h4 := col_bd hm1 S i
      have h5 := far_bd hm1 (by have := h.m2; omega) h.g (S := S) (D := D) (i := i) (h.d i hi)
      have h6 := edge_mono h (show (colP m S i).toNat ≤ v by omega) (by omega)
      omega
  · omega
theorem wid_none {m : Nat} {S D : List Int} {gap : Int} {N : Nat} (h : WidOk m S D gap N) {v : Nat} (hv : v < m) (hu : useP m S N ≤ v) : (edgeL m S D gap N).getD (v + 1) 0 = (edgeL m S D gap N).getD v 0 := by
  have h0 := edge_bd h (show v < m + 1 by omega)
  have h1 := wid_ge h hv
  by_cases hp : 0 < (edgeL m S D gap N).getD (v + 1) 0
  · rcases edge_step h hv hp with e | ⟨i, hi, h1, h2⟩
    · exact e
    · have := use_ge (n := (m : Int)) (S := S) hi
      omega
  · omega
theorem widL_at {m : Nat} {S D : List Int} {gap : Int} {N : Nat} {v : Nat} (hv : v < m) : (widL m S D gap N).getD v 0 = (edgeL m S D gap N).getD (v + 1) 0 - (edgeL m S D gap N).getD v 0 := by
  simp [widL, List.getD, hv]
theorem widL_ok {m : Nat} {S D : List Int} {gap : Int} {N : Nat} (h : WidOk m S D gap N) : okN (widL m S D gap N) := by
  intro v hv
  unfold widL at hv
  obtain ⟨i, hi, rfl⟩ := List.mem_map.1 hv
  have hi := List.mem_range.1 hi
  have h1 := wid_ge h hi
  have h2 := wid_most h hi
  omega
theorem psum_take (l : List Int) (u : Nat) : ∀ k, k ≤ u → psum (l.take u) k = psum l k := by
  intro k
  induction k with
  | zero => intro _; rfl
  | succ k ih =>
    intro hk
    show psum (l.take u) k + (l.take u).getD k 0 = psum l k + l.getD k 0
    rw [ih (by omega)]
    congr 1
    simp [List.getD, List.getElem?_take, show k < u by omega]
theorem psum_zero (l : List Int) (u : Nat) (h : ∀ k, u ≤ k → l.getD k 0 = 0) : ∀ d, psum l (u + d) = psum l u := by
  intro d
  induction d with
  | zero => rfl
  | succ d ih =>
    show psum l (u + d) + l.getD (u + d) 0 = _
    rw [ih, h _ (by omega)]
    omega
def usedL (m : Nat) (S D : List Int) (gap : Int) (N : Nat) : List Int := (widL m S D gap N).take (useP m S N).toNat
theorem usedL_len {m : Nat} (hm : 1 ≤ m) (S D : List Int) (gap : Int) (N : Nat) : (usedL m S D gap N).length = (useP m S N).toNat := by
  have := use_bd (n := (m : Int)) (by omega) S N
  simp [usedL, widL_len]
  omega
theorem usedL_ok {m : Nat} {S D : List Int} {gap : Int} {N : Nat} (h : WidOk m S D gap N) : okN (usedL m S D gap N) := fun v hv => widL_ok h v (List.mem_of_mem_take hv)
theorem used_whole {m : Nat} {S D : List Int} {gap : Int} {N : Nat} (h : WidOk m S D gap N) : wholeP (usedL m S D gap N) gap (useP m S N).toNat = wholeP (widL m S D gap N) gap (useP m S N) := by
  have hb := use_bd (n := (m : Int)) (by have := h.m1; omega) S N
  unfold wholeP
  rw [usedL_len h.m1, widL_len]
  unfold usedL
  rw [psum_take _ _ _ (Nat.le_refl _), show (((useP m S N).toNat : Nat) : Int) = useP m S N by omega]
  congr 1
  have := psum_zero (widL m S D gap N) (useP m S N).toNat (fun k hk => by
    by_cases hkm : k < m
    · rw [widL_at hkm, wid_none h hkm (by omega)]
      omega
    · simp [List.getD, show (widL m S D gap N).length ≤ k by rw [widL_len]; omega]) (m - (useP m S N).toNat)
  rw [← this]
  congr 1
  omega
theorem hgtL_len (n : Int) (S D : List Int) (N : Nat) : (hgtL n S D N).length = rwN n S N := by unfold hgtL; rw [hgtX_len]
theorem hgtL_ok {n : Int} {S D : List Int} {N : Nat} (hd : ∀ i, i < N → 0 ≤ D.getD i 0 ∧ D.getD i 0 ≤ 16384) : okN (hgtL n S D N) := by
  intro v hv
  unfold hgtL hgtX at hv
  obtain ⟨y, _, rfl⟩ := List.mem_map.1 hv
  exact hgt_bd hd N (Nat.le_refl _) y
end Go.Proofs.Ytjippgflempdmaa

/- Layer 11: the plan of things: its closures; what is planned. -/
namespace Go.Proofs.Ytjippgflempdmaa
set_option linter.unusedVariables false
set_option linter.unusedSimpArgs false
set_option maxRecDepth 100000
open Go.RowKit
attribute [local go_sem] max_fold min_fold

theorem ws_at (L : List T2) (i : Nat) (h : i < L.length) : (wsL L).getD i 0 = L[i].p := by simp [wsL, List.getD, h]
theorem hs_at (L : List T2) (i : Nat) (h : i < L.length) : (hsL L).getD i 0 = L[i].q := by simp [hsL, List.getD, h]
set_option maxRecDepth 100000 in
set_option maxHeartbeats 1000000 in
theorem need_any2 (q : Nat) (A2 : Option Addr) (c2 M B : Nat) (L : List T2) (w : World) (hq : w.heap[q]? = some (.cells #[.slice A2 M c2] 34 (0, 0))) (hA2 : At B w A2 (t2s L)) (hM : L.length = M) (hM2 : M ≤ 100000) (i : Nat) (hi : i < M) :
    Calls Try.prog 66 #[.int .i64 i, .pointer (some ⟨q, 0, none⟩)] w fun e w' => e = .returned (.int .i64 ((wsL L).getD i 0)) ∧ w = w' := by
  have k0 : w.cell? ⟨q, 0, none⟩ = some (.slice A2 M c2) := by have := blk_cell hq 0; simpa using this
  obtain ⟨g, o, rfl, _, c0, c1⟩ := hA2.t2 (k := i) (by omega)
  rw [ws_at L i (by omega)]
  have hii : (i : Int) < (M : Int) := by omega
  generalize L[i] = d at *
  obtain ⟨dp, dq⟩ := d
  clear hA2 hq
  go_enter Try.func66, Try.ntmps66
  go_wp2
  go_ret
  exact ⟨rfl, rfl⟩
set_option maxRecDepth 100000 in
set_option maxHeartbeats 1000000 in
theorem need_any3 (q : Nat) (A2 : Option Addr) (c2 M B : Nat) (L : List T2) (w : World) (hq : w.heap[q]? = some (.cells #[.slice A2 M c2] 34 (0, 0))) (hA2 : At B w A2 (t2s L)) (hM : L.length = M) (hM2 : M ≤ 100000) (i : Nat) (hi : i < M) :
    Calls Try.prog 67 #[.int .i64 i, .pointer (some ⟨q, 0, none⟩)] w fun e w' => e = .returned (.int .i64 ((hsL L).getD i 0)) ∧ w = w' := by
  have k0 : w.cell? ⟨q, 0, none⟩ = some (.slice A2 M c2) := by have := blk_cell hq 0; simpa using this
  obtain ⟨g, o, rfl, _, c0, c1⟩ := hA2.t2 (k := i) (by omega)
  rw [hs_at L i (by omega)]
  have hii : (i : Int) < (M : Int) := by omega
  generalize L[i] = d at *
  obtain ⟨dp, dq⟩ := d
  clear hA2 hq
  go_enter Try.func67, Try.ntmps67
  go_wp2
  go_ret
  exact ⟨rfl, rfl⟩
theorem enters_p1 : Enters Try.prog 65 := enters_of Try.func65 (by kernel_rfl) rfl
theorem enters_p2 : Enters Try.prog 66 := enters_of Try.func66 (by kernel_rfl) rfl
theorem enters_p3 : Enters Try.prog 67 := enters_of Try.func67 (by kernel_rfl) rfl

/-- While it is looked how many columns are used. -/
structure USt (w : World) (u : Nat) (v : Int) (wr : World) : Prop where
  below : Below w.heap.size w wr
  box : wr.heap[u]? = some (.cells #[.int .i64 v] 3 (0, 0))
  gu : w.heap.size ≤ u
theorem USt.on {w wr w' : World} {u : Nat} {v : Int} (h : USt w u v wr) (hb : Below wr.heap.size wr w') : USt w u v w' :=
  ⟨h.below.trans (hb.mono h.below.size), (hb.block _ (blk_lt2 h.box)).trans h.box, h.gu⟩
theorem USt.put {w wr : World} {u : Nat} {v : Int} (h : USt w u v wr) (x : Int) : USt w u x (wr.setCell ⟨u, 0, none⟩ (.int .i64 x)) := by
  refine ⟨h.below.setCell (p := ⟨u, 0, none⟩) h.gu _, ?_, h.gu⟩
  have := store_in (i := 0) (u := .int .i64 x) h.box
  simpa using this
set_option maxRecDepth 100000 in
set_option maxHeartbeats 2000000 in
theorem uadd_any {w wr : World} {u : Nat} {v : Int} (h : USt w u v wr) (x wd i y : Int) (hx : 0 ≤ x ∧ x ≤ 64) (hwd : 0 ≤ wd ∧ wd ≤ 64) :
    Calls Try.prog 65 #[.agg #[.int .i64 x, .int .i64 wd, .int .i64 i], .int .i64 y, .pointer (some ⟨u, 0, none⟩)] wr fun e w' => e = .returned (.tuple #[]) ∧ USt w u (max v (x + wd)) w' := by
  have hb := blk_cell h.box 0
  simp at hb
  have lq := World.block_lt_of_cell? _ _ hb
  have H := Go.Lib.hid h
  have HF : Hid (wr.frozen? ⟨u, 0, none⟩ = false) := Go.Lib.hid (blk_frozen h.box 0)
  have hf := HF.out
  clear h
  go_enter Try.func65, Try.ntmps65
  go_wp2
  go_end0
  exact ⟨rfl, (H.out.put _).on ((Below.refl _ _).alloc (Nat.le_refl _) _)⟩

structure PlanOk (m : Nat) (S : List Int) (L : List T2) (gap : Int) : Prop where
  wid : WidOk m S (wsL L) gap S.length
  hd : ∀ i, i < S.length → 0 ≤ (hsL L).getD i 0 ∧ (hsL L).getD i 0 ≤ 16384
  len : L.length = S.length
def PlanPost (m : Nat) (S : List Int) (L : List T2) (gap : Int) (N : Nat) (w : World) (e : Ending) (w' : World) : Prop :=
  ∃ A1 c1 Z A2 c2 A3 c3, e = .returned (.agg #[.slice A1 (List.length Z) c1, .slice A2 (useP m S N).toNat c2, .slice A3 (rwN m S N) c3]) ∧ recs m S N Z ∧ RowsAt m S A1 Z w' ∧ At w'.heap.size w' A2 (ints (usedL m S (wsL L) gap N)) ∧ At w'.heap.size w' A3 (ints (hgtL m S (hsL L) N)) ∧ Below w.heap.size w w'
theorem own_pos {w : World} {base : Nat} {e : TypeId} {size n c : Nat} {A : Option Addr} {xs : List Value} (h : w.ownsRow base e size (.slice A n c) n xs) (hn : 0 < n) : ∃ g, A = some ⟨g, 0, none⟩ ∧ n ≤ c ∧ c ≤ maxLen := by
  rcases h.2 with ⟨_, h2⟩ | ⟨g, cap, cur, hv, _, _, h3, h4, _⟩
  · omega
  · injection hv with h1 h2 h5
    exact ⟨g, h1, by omega, by omega⟩
def OwnV (base n : Nat) (l : List Int) : Value → World → Prop := fun v w => ∃ A c, v = .slice A n c ∧ w.ownsRow base 3 1 v n (ints l)
theorem OwnV.stable (base n : Nat) (l : List Int) : Stable (OwnV base n l) := fun _ _ _ ⟨A, c, e, h⟩ hb => ⟨A, c, e, own_below' h hb⟩
theorem own_up {P : Program} {f : FuncId} {args : Array Value} {w : World} {l : List Int} {n base : Nat} (hn : l.length = n) (hb : base ≤ w.heap.size) (h : Calls P f args w (IntsPost l w)) : Calls P f args w fun e w'' => ∃ v, e = .returned v ∧ OwnV base n l v w'' ∧ Below w.heap.size w w'' :=
  h.mono fun _ _ ⟨A, c, he, hw, hb2⟩ => ⟨_, he, ⟨A, c, by rw [hn], by rw [hn] at hw ⊢; exact own_mono hw hb⟩, hb2⟩
/-- A row of the call's own is not touched by a store elsewhere. -/
theorem own_off1 {w : World} {base : Nat} {e : TypeId} {size n k : Nat} {v : Value} {xs : List Value} (h : w.ownsRow base e size v n xs) (hk : k < base) (o : Nat) (u : Value) : (w.setCell ⟨k, o, none⟩ u).ownsRow base e size v n xs :=
  own_same h (fun _ h2 => (h.lt _ h2).2) fun j hj _ => heap_setCell_other _ _ _ _ (by simp only; omega)
theorem RowsIn.off {n : Int} {S : List Int} {base top c k : Nat} {A : Option Addr} {Z : List Rw} {wr : World} (h : RowsIn n S base top A c Z wr) (hk : k < base) (o : Nat) (u : Value) : RowsIn n S base top A c Z (wr.setCell ⟨k, o, none⟩ u) :=
  h.same fun j hj _ => heap_setCell_other _ _ _ _ (by simp only; omega)

set_option maxRecDepth 100000 in
set_option maxHeartbeats 4000000 in
theorem planned_any (B : Nat) (A A2 : Option Addr) (c c2 m : Nat) (S : List Int) (L : List T2) (col gap : Int) (w : World) (hA : At B w A (ints S)) (hA2 : At B w A2 (t2s L)) (hB : B ≤ w.heap.size) (hok : PlanOk m S L gap) (hcol : max col 1 = (m : Int)) :
    Calls Try.prog 39 #[.slice A S.length c, .slice A2 L.length c2, .int .i64 col, .int .i64 gap] w (PlanPost m S L gap S.length w) := by
  have HOK := Go.Lib.hid hok
  have HCOL := Go.Lib.hid hcol
  have hlen := hok.len
  have hm1 := hok.wid.m1
  have hm2 := hok.wid.m2
  have hn1 := hok.wid.n1
  have hub := use_bd (n := (m : Int)) (by omega) S S.length
  obtain ⟨N, hN⟩ : ∃ N, S.length = N := ⟨_, rfl⟩
  have HROWS : Hid (∀ w', At B w' A (ints S) → B ≤ w'.heap.size → Calls Try.prog 34 #[.slice A N c, .int .i64 col] w' (RowsPost m S w')) := Go.Lib.hid fun w' h1 h2 => hN ▸ rows_any B A c S col m w' h1 h2 hn1 hcol (by omega)
  rw [hlen, hN]
  rw [hN] at hn1 hub
  have HNN := Go.Lib.hid hN
  have HLL := Go.Lib.hid (hlen.trans hN)
  clear hok hlen hN hcol
  go_enter Try.func39, Try.ntmps39
  go_wp2_with fail
  obtain ⟨w0, hw0⟩ : ∃ w0, (w.alloc (.cells #[.slice A2 N c2] 34)).alloc (.cells #[.slice none 0 0, .slice none 0 0, .slice none 0 0] 69) = w0 := ⟨_, rfl⟩
  have hb0 : Below w.heap.size w w0 := hw0 ▸ ((Below.refl _ _).alloc (Nat.le_refl _) _).alloc (by simp) _
  have hq0 : w0.heap[w.heap.size]? = some (.cells #[.slice A2 N c2] 34 (0, 0)) := by rw [← hw0, Below.heap_alloc _ _ _ (by simp), alloc_at]
  have hr0 : w0.heap[w.heap.size + 1]? = some (.cells #[.slice none 0 0, .slice none 0 0, .slice none 0 0] 69 (0, 0)) := by rw [← hw0, alloc_two]
  rw [hw0]
  clear hw0
  have hs0 := hb0.size
  obtain ⟨q, hq⟩ : ∃ q, w.heap.size = q := ⟨_, rfl⟩
  have hA0 := hA.below (hb0.mono hB)
  have hA20 := hA2.below (hb0.mono hB)
  have hB0 : B ≤ w0.heap.size := by omega
  have HB0 := Go.Lib.hid hb0
  have HQ := Go.Lib.hid hq
  have HA20 := Go.Lib.hid hA20
  rw [hq] at hq0 hr0 ⊢
  clear hA hA2 hb0 hA20 hq
  refine (HROWS.out w0 hA0 hB0).mono ?_
  rintro e w2 ⟨A3, c3, Z, rfl, hrec, hmem, hb2⟩
  rw [HNN.out] at hrec
  have HREC := Go.Lib.hid hrec
  have hrows := RowsIn.of hmem
  have HB2 := Go.Lib.hid hb2
  have hq2 := (hb2.block _ (blk_lt2 hq0)).trans hq0
  have hr2 := (hb2.block _ (blk_lt2 hr0)).trans hr0
  have lq2 := blk_lt2 hq2
  have lr2 := blk_lt2 hr2
  have lr0 := blk_lt2 hr0
  have hs2 := hb2.size
  have HROW2 := Go.Lib.hid hrows
  clear hq0 hr0 hb2 hmem hrec hrows HROWS hA0
  go_wp2_with fail
  have hst : USt w2 w2.heap.size (useP m S 0) (w2.alloc (.cells #[.int .i64 0] 3)) := ⟨(Below.refl _ _).alloc (Nat.le_refl _) _, alloc_at _ _, Nat.le_refl _⟩
  refine (each_any 65 #[.pointer (some ⟨w2.heap.size, 0, none⟩)] (fun a w => enters_p1 a w) m (by omega) S N hn1 A3 c3 Z HREC.out (fun i wr => USt w2 w2.heap.size (useP m S i) wr) (fun i wr h => (HROW2.out.on h.below).at) (fun i wr w' h hb => h.on hb) (fun i wr hi h => ?_) _ hst).mono ?_
  · have h1 := col_bd (n := (m : Int)) (by omega) S i
    have h2 := wide_bd (n := (m : Int)) (by omega) S i
    exact uadd_any h (colP m S i) (wideP m S i) i (rowP m S i) (by omega) (by omega)
  rintro e w4 ⟨rfl, h4⟩
  have hb4 := h4.below
  have hu4 := h4.box
  obtain ⟨u, hu⟩ : ∃ u, w2.heap.size = u := ⟨_, rfl⟩
  have hq4 := (hb4.block _ lq2).trans hq2
  have hr4 := (hb4.block _ lr2).trans hr2
  have hrow4 := Go.Lib.hid (HROW2.out.on hb4)
  have hA24 := Go.Lib.hid ((HA20.out.below (HB2.out.mono hB0)).below (hb4.mono (Nat.le_trans hB0 hs2)))
  have hs4 := hb4.size
  have HB4 := Go.Lib.hid hb4
  have HU := Go.Lib.hid hu
  rw [hu] at hu4 ⊢
  clear h4 hst hq2 hr2 hb4 hu
  have hBw : B ≤ w4.heap.size := by omega
  have lq4 := blk_lt2 hq4
  have lr4 := blk_lt2 hr4
  have lu4 := blk_lt2 hu4
  go_wp2_with fail
  refine (widths_any 66 #[.pointer (some ⟨q, 0, none⟩)] (fun a w => enters_p2 a w) m S (wsL L) col gap N (by have := HOK.out.wid; rwa [HNN.out] at this) HCOL.out A3 c3 Z HREC.out w4 hrow4.out.at (fun i hi V hV => ?_)).mono ?_
  · exact (need_any2 q A2 c2 N B L V ((hV.block _ lq4).trans hq4) (hA24.out.below (hV.mono hBw)) HLL.out (by omega) i hi).mono fun _ _ ⟨h1, h2⟩ => ⟨h1, h2 ▸ Below.refl _ _⟩
  rintro e w5 ⟨A5, c5, rfl, hown5, hb5⟩
  rw [widL_len] at hown5 ⊢
  obtain ⟨g5, rfl, hmc, hcm⟩ := own_pos hown5 (by omega)
  have hq5 := (hb5.block _ lq4).trans hq4
  have hr5 := (hb5.block _ lr4).trans hr4
  have hu5 := (hb5.block _ lu4).trans hu4
  have hs5 := hb5.size
  have HB5 := Go.Lib.hid hb5
  have hrow5 := Go.Lib.hid (hrow4.out.on hb5)
  have hA25 := Go.Lib.hid (hA24.out.below (hb5.mono hBw))
  have HAT5 := Go.Lib.hid hown5
  clear hown5 hq4 hr4 hu4 hA24 hrow4 hb5
  have ku : w5.cell? ⟨u, 0, none⟩ = some (.int .i64 (useP m S N)) := by have := blk_cell hu5 0; simpa using this
  have lu5 := blk_lt2 hu5
  have lq5 := blk_lt2 hq5
  have lr5 := blk_lt2 hr5
  go_wp2_with fail
  have hub0 := hub.1
  have huc : useP m S N ≤ (c5 : Int) := by omega
  have HH : Hid (∀ w1, Below w5.heap.size w5 w1 → Calls Try.prog 41 #[.slice A3 Z.length c3, .func (.func 67) #[] #[.pointer (some ⟨q, 0, none⟩)]] w1 (IntsPost (hgtL m S (hsL L) N) w1)) := Go.Lib.hid fun w1 hw1 =>
    heights_any 67 #[.pointer (some ⟨q, 0, none⟩)] (fun a w => enters_p3 a w) m (by omega) S (hsL L) N hn1 (by have := HOK.out.hd; rwa [HNN.out] at this) A3 c3 Z HREC.out w1 (hrow5.out.on hw1).at fun i hi V hV =>
      (need_any3 q A2 c2 N B L V ((hV.block _ (Nat.lt_of_lt_of_le lq5 hw1.size)).trans ((hw1.block _ lq5).trans hq5)) ((hA25.out.below (hw1.mono (by omega))).below (hV.mono (by have := hw1.size; omega))) HLL.out (by omega) i hi).mono fun _ _ ⟨h1, h2⟩ => ⟨h1, h2 ▸ Below.refl _ _⟩
  obtain ⟨U, hU⟩ : ∃ U, useP m S N = U := ⟨_, rfl⟩
  have HUU := Go.Lib.hid hU
  rw [hU] at hub0 huc hub ku
  refine region_mono 7 [[], [], [], [1, 2], [], [], [4, 5]] (pick [IsV (.slice A3 Z.length c3), IsV (.slice (some ⟨g5, 0, none⟩) m c5), IsV (.int .i64 U), IsV (.slice (some ⟨g5, 0, none⟩) U.toNat c5), IsV (.slice A3 Z.length c3), IsV (.func (.func 67) #[] #[.pointer (some ⟨q, 0, none⟩)]), OwnV w5.heap.size (rwN m S N) (hgtL m S (hsL L) N)]) mixed (by kernel_rfl) (pick_stable ?_) ?_ ?_
  · simp [IsV.stable, OwnV.stable]
  · simp only [List.take_succ_cons, List.take_zero, MonoObs, DepAll, dsOf, List.map_cons, List.map_nil]
    refine ⟨?_, ?_, ?_, ?_, ?_, ?_, ?_, trivial⟩
    all_goals simp [go_sem, upon1, pick, IsV, huc, hub0]
    all_goals first
      | exact fun w1 _ => Below.refl _ _
      | (intro w1 hw; rw [(bcell hw).1 _ _ lu5, ku]; simp [go_sem, Result.andThen]; exact Below.refl _ _)
      | with_reducible exact fun w1 hw => own_up (hgtL_len _ _ _ _) hw.size (HH.out w1 hw)
  · intro w1 hb1
    simp only [show List.range 7 = [0, 1, 2, 3, 4, 5, 6] from rfl, DepAll, dsOf, List.map_cons, List.map_nil, List.take_succ_cons, List.take_zero]
    rintro _ rfl _ rfl _ rfl _ rfl _ rfl _ rfl v6 ⟨A6, c6, rfl, h6⟩
    have hr1 := (hb1.block _ lr5).trans hr5
    have HB1 := Go.Lib.hid hb1
    have hrow1 := Go.Lib.hid (hrow5.out.on hb1)
    have hat1 := Go.Lib.hid (own_below' HAT5.out hb1)
    have h6' := Go.Lib.hid h6
    have kr0 : w1.cell? ⟨q + 1, 0, none⟩ = some (.slice none 0 0) := by have := blk_cell hr1 0; simpa using this
    have kr1 : w1.cell? ⟨q + 1, 1, none⟩ = some (.slice none 0 0) := by have := blk_cell hr1 1; simpa using this
    have kr2 : w1.cell? ⟨q + 1, 2, none⟩ = some (.slice none 0 0) := by have := blk_cell hr1 2; simpa using this
    have kf0 := blk_frozen hr1 0
    have kf1 := blk_frozen hr1 1
    have kf2 := blk_frozen hr1 2
    have lr1 := blk_lt2 hr1
    clear h6 hb1 hr5 hu5 hq5 ku HH
    simp only [List.getD_cons_succ, List.getD_cons_zero, List.drop_succ_cons, List.drop_zero]
    go_wp2
    have hqb : q + 1 < w0.heap.size := lr0
    have hgw : w.heap.size ≤ q + 1 := by rw [HQ.out]; omega
    refine bodyPost_ret (by simp [results, Try.results39, go_sem, *]) rfl (?_ : PlanPost m S L gap N w (.returned (.agg #[.slice A3 Z.length c3, .slice (some ⟨g5, 0, none⟩) U.toNat c5, .slice A6 (rwN m S N) c6])) _)
    refine ⟨A3, c3, Z, some ⟨g5, 0, none⟩, c5, A6, c6, by rw [← HUU.out], HREC.out, ?_, ?_, ?_, ?_⟩
    · exact (((hrow1.out.off hqb 0 _).off hqb 1 _).off hqb 2 _).at
    · have h7 := At.of_own (own_off1 (k := q + 1) (own_off1 (k := q + 1) (own_off1 (k := q + 1) hat1.out (by omega) 0 (.slice A3 Z.length c3)) (by omega) 1 (.slice (some ⟨g5, 0, none⟩) U.toNat c5)) (by omega) 2 (.slice A6 (rwN m S N) c6))
      have h8 := h7.take U.toNat
      unfold usedL
      rw [HUU.out]
      rwa [show List.take U.toNat (ints (widL m S (wsL L) gap N)) = ints (List.take U.toNat (widL m S (wsL L) gap N)) by simp [ints]] at h8
    · exact At.of_own (own_off1 (k := q + 1) (own_off1 (k := q + 1) (own_off1 (k := q + 1) h6'.out (by omega) 0 _) (by omega) 1 _) (by omega) 2 _)
    · have h9 : Below w.heap.size w w1 := ((((HB0.out.trans (HB2.out.mono hs0)).trans (HB4.out.mono (by omega))).trans (HB5.out.mono (by omega))).trans (HB1.out.mono (by omega)))
      exact ((h9.setCell (p := ⟨q + 1, 0, none⟩) hgw _).setCell (p := ⟨q + 1, 1, none⟩) hgw _).setCell (p := ⟨q + 1, 2, none⟩) hgw _
end Go.Proofs.Ytjippgflempdmaa

/- Layer 11: what is wrong; Need, the program's. -/
namespace Go.Proofs.Ytjippgflempdmaa
set_option linter.unusedVariables false
set_option linter.unusedSimpArgs false
set_option maxRecDepth 100000
open Go.RowKit
attribute [local go_sem] max_fold min_fold

theorem alloc_three (w : World) (o o' o'' : Obj) : (((w.alloc o).alloc o').alloc o'').heap[w.heap.size + 2]? = some o'' := by
  have := alloc_at ((w.alloc o).alloc o') o''
  rwa [World.size_alloc, World.size_alloc] at this
def wrongE (S : List Int) (L : List T2) (col gap : Int) : Int := askE [numE 64 S, szE L, num1 64 col, num1 16384 gap]
theorem wrong_ok {S : List Int} {L : List T2} {col gap : Int} (h : wrongE S L col gap = 0) (hl : S.length = L.length) : PlanOk (max col 1).toNat S L gap ∧ max col 1 = ((max col 1).toNat : Int) ∧ S.length ≤ 1024 := by
  have h1 := numE_ok (ask_ok h (numE 64 S) (by simp))
  have h2 := szE_ok (ask_ok h (szE L) (by simp))
  have h3 := num1_ok (ask_ok h (num1 64 col) (by simp))
  have h4 := num1_ok (ask_ok h (num1 16384 gap) (by simp))
  refine ⟨⟨⟨by omega, by omega, h1.1, h4, fun i hi => ?_⟩, fun i hi => ?_, hl.symm⟩, by omega, h1.1⟩
  · rw [ws_at L i (by omega)]
    exact (h2.2 _ (List.getElem_mem _)).1
  · rw [hs_at L i (by omega)]
    exact (h2.2 _ (List.getElem_mem _)).2

set_option maxRecDepth 100000 in
set_option maxHeartbeats 4000000 in
theorem wrong_any (B : Nat) (A A2 : Option Addr) (c c2 : Nat) (S : List Int) (L : List T2) (col gap : Int) (w : World) (hA : At B w A (ints S)) (hA2 : At B w A2 (t2s L)) (hB : B ≤ w.heap.size) (hl : S.length ≤ 9000000000000000000) (hl2 : L.length ≤ 9000000000000000000) :
    Calls Try.prog 38 #[.slice A S.length c, .slice A2 L.length c2, .int .i64 col, .int .i64 gap] w fun e w' => e = .returned (.int .i64 (wrongE S L col gap)) ∧ Below w.heap.size w w' := by
  obtain ⟨N, hN⟩ : ∃ N, S.length = N := ⟨_, rfl⟩
  obtain ⟨M, hM⟩ : ∃ M, L.length = M := ⟨_, rfl⟩
  have HS : Hid (∀ w', At B w' A (ints S) → Calls Try.prog 32 #[.int .i64 64, .slice A N c] w' fun e w'' => e = .returned (.int .i64 (numE 64 S)) ∧ w' = w'') := Go.Lib.hid fun w' h => by
    have := numbers_any B A c 64 S w' h (by omega)
    rwa [hN] at this
  have HD : Hid (∀ w', At B w' A2 (t2s L) → B ≤ w'.heap.size → Calls Try.prog 64 #[.slice A2 M c2] w' fun e w'' => e = .returned (.int .i64 (szE L)) ∧ Below w'.heap.size w' w'') := Go.Lib.hid fun w' h h2 => by
    have := sized_any B A2 c2 L w' h h2 (by omega)
    rwa [hM] at this
  obtain ⟨E, hE⟩ : ∃ E, wrongE S L col gap = E := ⟨_, rfl⟩
  have hEE : askE [numE 64 S, szE L, num1 64 col, num1 16384 gap] = E := hE
  rw [hN, hM, hE]
  clear hl hl2 hN hM hE
  generalize numE 64 S = e1 at *
  generalize szE L = e2 at *
  generalize he3 : num1 64 col = e3 at *
  generalize he4 : num1 16384 gap = e4 at *
  have HE3 := Go.Lib.hid he3
  have HE4 := Go.Lib.hid he4
  have HEE := Go.Lib.hid hEE
  clear he3 he4 hEE
  go_enter Try.func38, Try.ntmps38
  go_wp2_with fail
  refine (HS.out _ hA).mono ?_
  rintro e w' ⟨rfl, rfl⟩
  go_wp2_with fail
  refine (HD.out _ hA2 hB).mono ?_
  rintro e w1 ⟨rfl, hb1⟩
  go_wp2_with fail
  with_reducible refine (numbers_new 64 col _ _).mono ?_
  rintro e w' ⟨rfl, rfl⟩
  rw [HE3.out]
  go_wp2_with fail
  refine (numbers_at (w1.heap.size + 1) 16384 gap _ (alloc_two _ _ _) rfl).mono ?_
  rintro e w' ⟨rfl, rfl⟩
  rw [HE4.out]
  go_wp2_with fail
  refine (asked_at (w1.heap.size + 2) [e1, e2, e3, e4] 4 _ (alloc_three _ _ _ _) rfl rfl (by omega)).mono ?_
  rintro e w2 ⟨rfl, hw2⟩
  have hb2 : Below w.heap.size w w2 := hw2 ▸ (((hb1.alloc hb1.size _).alloc (by have := hb1.size; simp; omega) _).alloc (by have := hb1.size; simp; omega) _)
  clear hw2
  rw [HEE.out]
  go_wp2
  go_ret
  exact ⟨rfl, hb2⟩

def ndW (S : List Int) (L : List T2) (col gap : Int) : Int := wholeP (widL (max col 1).toNat S (wsL L) gap S.length) gap (useP (max col 1) S S.length)
def ndH (S : List Int) (L : List T2) (col gap : Int) : Int := wholeP (hgtL (max col 1) S (hsL L) S.length) gap (rwN (max col 1) S S.length)
def ndE (S : List Int) (L : List T2) (col gap : Int) : Int := if wrongE S L col gap = 0 then (if S.length = L.length then (if ndW S L col gap ≤ 16384 ∧ ndH S L col gap ≤ 16384 then 0 else 9) else 110) else wrongE S L col gap
def ndR (S : List Int) (L : List T2) (col gap : Int) : T2 := if ndE S L col gap = 0 then ⟨ndW S L col gap, ndH S L col gap⟩ else ⟨0, 0⟩
theorem need_bd {S : List Int} {L : List T2} {col gap : Int} (h : wrongE S L col gap = 0) (hl : S.length = L.length) : (0 ≤ ndW S L col gap ∧ ndW S L col gap ≤ 100000000) ∧ (0 ≤ ndH S L col gap ∧ ndH S L col gap ≤ 100000000) := by
  obtain ⟨h1, h2, h3⟩ := wrong_ok h hl
  unfold ndW ndH wholeP
  obtain ⟨m, hm⟩ : ∃ m : Nat, (max col 1).toNat = m := ⟨_, rfl⟩
  rw [hm] at h1 h2 ⊢
  rw [h2]
  have hg := h1.wid.g
  have hm1 := h1.wid.m1
  have hm2 := h1.wid.m2
  have hu := use_bd (n := (m : Int)) (by omega) S S.length
  have hr := rw_most (n := (m : Int)) (by omega) S S.length
  have a1 := many_bd (many := useP (m : Int) S S.length) hg (by omega)
  have a2 := many_bd (many := (rwN (m : Int) S S.length : Int)) hg (by omega)
  have b1 := psum_bd (widL_ok h1.wid) (widL m S (wsL L) gap S.length).length
  have b2 := psum_bd (hgtL_ok (n := (m : Int)) (S := S) h1.hd) (hgtL (m : Int) S (hsL L) S.length).length
  rw [widL_len] at b1 ⊢
  rw [hgtL_len] at b2 ⊢
  omega

theorem blk2 {w : World} {g : Nat} {a b : Value} {t : TypeId} (h : w.heap[g]? = some (.cells #[a, b] t (0, 0))) : w.cell? ⟨g, 0, none⟩ = some a ∧ w.cell? ⟨g, 1, none⟩ = some b ∧ w.frozen? ⟨g, 0, none⟩ = false ∧ w.frozen? ⟨g, 1, none⟩ = false ∧ g < w.heap.size :=
  ⟨by have := blk_cell h 0; simpa using this, by have := blk_cell h 1; simpa using this, blk_frozen h 0, blk_frozen h 1, blk_lt2 h⟩
theorem blk3 {w : World} {g : Nat} {a b c : Value} {t : TypeId} (h : w.heap[g]? = some (.cells #[a, b, c] t (0, 0))) : w.cell? ⟨g, 0, none⟩ = some a ∧ w.cell? ⟨g, 1, none⟩ = some b ∧ w.cell? ⟨g, 2, none⟩ = some c ∧ w.frozen? ⟨g, 0, none⟩ = false ∧ w.frozen? ⟨g, 1, none⟩ = false ∧ w.frozen? ⟨g, 2, none⟩ = false ∧ g < w.heap.size :=
  ⟨by have := blk_cell h 0; simpa using this, by have := blk_cell h 1; simpa using this, by have := blk_cell h 2; simpa using this, blk_frozen h 0, blk_frozen h 1, blk_frozen h 2, blk_lt2 h⟩
theorem store2 {w : World} {b : Nat} {v0 v1 u0 u1 : Value} {T : TypeId} (h : w.heap[b]? = some (.cells #[v0, v1] T (0, 0))) :
    ((w.setCell ⟨b, 0, none⟩ u0).setCell ⟨b, 1, none⟩ u1).heap[b]? = some (.cells #[u0, u1] T (0, 0)) := store_in (store_in h)
theorem below2 {B : Nat} {w w' : World} (h : Below B w w') {g : Nat} (hg : B ≤ g) (u0 u1 : Value) : Below B w ((w'.setCell ⟨g, 0, none⟩ u0).setCell ⟨g, 1, none⟩ u1) := (h.setCell (p := ⟨g, 0, none⟩) hg _).setCell (p := ⟨g, 1, none⟩) hg _
def PtrV (base : Nat) (cs : Array Value) (t : TypeId) : Value → World → Prop := fun v w => ∃ g, v = .pointer (some ⟨g, 0, none⟩) ∧ base ≤ g ∧ w.heap[g]? = some (.cells cs t (0, 0))
theorem PtrV.stable (base : Nat) (cs : Array Value) (t : TypeId) : Stable (PtrV base cs t) := fun _ _ _ ⟨g, e, hg, h⟩ hb => ⟨g, e, hg, (hb.block _ (blk_lt2 h)).trans h⟩
def NeedP (R : T2) (err : Int) (w : World) (e : Ending) (w' : World) : Prop := e = .returned (.tuple #[.agg #[.int .i64 R.p, .int .i64 R.q], .int .i64 err]) ∧ Below w.heap.size w w'

set_option maxRecDepth 100000 in
set_option maxHeartbeats 4000000 in
theorem Need_any (B : Nat) (A A2 : Option Addr) (c c2 : Nat) (S : List Int) (L : List T2) (col gap : Int) (w : World) (hA : At B w A (ints S)) (hA2 : At B w A2 (t2s L)) (hB : B ≤ w.heap.size) (hl : S.length ≤ 9000000000000000000) (hl2 : L.length ≤ 9000000000000000000) :
    Calls Try.prog 11 #[.slice A S.length c, .slice A2 L.length c2, .int .i64 col, .int .i64 gap] w (NeedP (ndR S L col gap) (ndE S L col gap) w) := by
  have HW : Hid (∀ w', At B w' A (ints S) → At B w' A2 (t2s L) → B ≤ w'.heap.size → Calls Try.prog 38 #[.slice A S.length c, .slice A2 L.length c2, .int .i64 col, .int .i64 gap] w' fun e w'' => e = .returned (.int .i64 (wrongE S L col gap)) ∧ Below w'.heap.size w' w'') := Go.Lib.hid fun w' h1 h2 h3 => wrong_any B A A2 c c2 S L col gap w' h1 h2 h3 hl hl2
  have HP : Hid (wrongE S L col gap = 0 → S.length = L.length → ∀ w', At B w' A (ints S) → At B w' A2 (t2s L) → B ≤ w'.heap.size → Calls Try.prog 39 #[.slice A S.length c, .slice A2 L.length c2, .int .i64 col, .int .i64 gap] w' (PlanPost (max col 1).toNat S L gap S.length w')) := Go.Lib.hid fun h1 h2 w' h3 h4 h5 => planned_any B A A2 c c2 _ S L col gap w' h3 h4 h5 (wrong_ok h1 h2).1 (wrong_ok h1 h2).2.1
  have HBD : Hid (wrongE S L col gap = 0 → S.length = L.length → (0 ≤ ndW S L col gap ∧ ndW S L col gap ≤ 100000000) ∧ (0 ≤ ndH S L col gap ∧ ndH S L col gap ≤ 100000000)) := Go.Lib.hid need_bd
  have HOK : Hid (wrongE S L col gap = 0 → S.length = L.length → PlanOk (max col 1).toNat S L gap ∧ max col 1 = ((max col 1).toNat : Int) ∧ S.length ≤ 1024) := Go.Lib.hid wrong_ok
  obtain ⟨E, hE⟩ : ∃ E, wrongE S L col gap = E := ⟨_, rfl⟩
  have HE : Hid (ndE S L col gap = if E = 0 then (if S.length = L.length then (if ndW S L col gap ≤ 16384 ∧ ndH S L col gap ≤ 16384 then 0 else 9) else 110) else E) := Go.Lib.hid (by rw [← hE]; rfl)
  have HR : Hid (ndR S L col gap = if ndE S L col gap = 0 then ⟨ndW S L col gap, ndH S L col gap⟩ else ⟨0, 0⟩) := Go.Lib.hid rfl
  rw [hE] at HW HP HBD HOK
  clear hE
  by_cases h0 : E = 0
  · by_cases hlen : S.length = L.length
    · subst h0
      have HP1 := Go.Lib.hid (HP.out rfl hlen)
      obtain ⟨hbw, hbh⟩ := HBD.out rfl hlen
      obtain ⟨hok, hcol, hsl⟩ := HOK.out rfl hlen
      have hll : (S.length : Int) = (L.length : Int) := by omega
      obtain ⟨N, hN⟩ : ∃ N, S.length = N := ⟨_, rfl⟩
      obtain ⟨M, hM⟩ : ∃ N, L.length = N := ⟨_, rfl⟩
      obtain ⟨m, hm⟩ : ∃ m : Nat, (max col 1).toNat = m := ⟨_, rfl⟩
      rw [hm] at HP1 hok hcol
      have HR := HR
      have hE2 := HE.out
      rw [if_pos rfl, if_pos hlen] at hE2
      have HE2 := Go.Lib.hid hE2
      have HOK1 := Go.Lib.hid hok
      have HWN : Hid (wholeP (usedL m S (wsL L) gap S.length) gap (useP m S S.length).toNat = ndW S L col gap) := Go.Lib.hid (by unfold ndW; rw [hm, hcol]; exact used_whole hok.wid)
      have HHN : Hid (wholeP (hgtL m S (hsL L) S.length) gap (rwN m S S.length) = ndH S L col gap) := Go.Lib.hid (by unfold ndH; rw [hcol])
      have hgap := hok.wid.g
      have hu := use_bd (n := (m : Int)) (by have := hok.wid.m1; omega) S S.length
      have hm2 := hok.wid.m2
      have hrN := rw_most (n := (m : Int)) (by have := hok.wid.m1; omega) S S.length
      have HR2 := HR
      clear HP HBD HOK HE hE2 hcol hm hok hlen
      rw [hN, hM] at HW HP1 hll ⊢
      rw [hN] at HWN HHN hu hrN hsl
      generalize ndW S L col gap = W at *
      generalize ndH S L col gap = H at *
      have HHH := Go.Lib.hid (⟨hN, hM⟩ : _ ∧ _)
      clear hN hM
      go_enter Try.func11, Try.ntmps11
      go_wp2_with fail
      refine (HW.out _ (hA.next hB _) (hA2.next hB _) (by simp; omega)).mono ?_
      rintro e w1 ⟨rfl, hb1⟩
      have hb1' : Below w.heap.size w w1 := ((Below.refl _ _).alloc (Nat.le_refl _) _).trans (hb1.mono (by simp))
      have hr1 := (hb1.block w.heap.size (by simp)).trans (alloc_at _ _)
      obtain ⟨r, hr⟩ : ∃ r, w.heap.size = r := ⟨_, rfl⟩
      have HRR := Go.Lib.hid hr
      have hA1 := hA.below (hb1'.mono hB)
      have hA21 := hA2.below (hb1'.mono hB)
      have hs1 := hb1'.size
      have HB1 := Go.Lib.hid hb1'
      clear hb1 hb1' hA hA2
      rw [hr] at hr1 ⊢
      go_wp2_with fail
      refine (HP1.out _ hA1 hA21 (by omega)).mono ?_
      rintro e w2 ⟨A1, c1, Z, A2, c2, A3, c3, rfl, hrec, hrows, hat2, hat3, hb2⟩
      have hr2 := (hb2.block _ (blk_lt2 hr1)).trans hr1
      have HB2 := Go.Lib.hid hb2
      have hs2 := hb2.size
      clear hr1 hb2 hrec hA1 hA21 hrows HP1 HW
      go_wp2
      obtain ⟨w3, hw3⟩ : ∃ w3, w2.alloc (.cells #[.slice A1 Z.length c1, .slice A2 (useP m S N).toNat c2, .slice A3 (rwN m S N) c3] 69) = w3 := ⟨_, rfl⟩
      have hb3 : Below w2.heap.size w2 w3 := hw3 ▸ (Below.refl _ _).alloc (Nat.le_refl _) _
      have hp3 : w3.heap[w2.heap.size]? = some (.cells #[.slice A1 Z.length c1, .slice A2 (useP m S N).toNat c2, .slice A3 (rwN m S N) c3] 69 (0, 0)) := by rw [← hw3]; exact alloc_at _ _
      rw [hw3]
      clear hw3
      have hs3 := hb3.size
      have HB3 := Go.Lib.hid hb3
      have hr3 := (hb3.block _ (blk_lt2 hr2)).trans hr2
      have lr3 := blk_lt2 hr3
      have HAT2 := Go.Lib.hid ((hat2.ext hb3).mono hb3.size)
      have HAT3 := Go.Lib.hid ((hat3.ext hb3).mono hb3.size)
      obtain ⟨p, hp⟩ : ∃ p, w2.heap.size = p := ⟨_, rfl⟩
      obtain ⟨k0, k1, k2, f0, f1, f2, lp⟩ := blk3 hp3
      rw [hp] at k0 k1 k2 f0 f1 f2 lp ⊢
      clear hb3 hat2 hat3 hr2 hp3 hp k0 f0 f1 f2
      have HW1 : Hid (∀ w1, Below w3.heap.size w3 w1 → Calls Try.prog 40 #[.slice A2 (useP m S N).toNat c2, .int .i64 gap] w1 fun e w' => e = .returned (.int .i64 W) ∧ w1 = w') := Go.Lib.hid fun w1 hw1 => by
        have := whole_any _ A2 c2 (usedL m S (wsL L) gap N) gap w1 (HAT2.out.below hw1) (by rw [usedL_len HOK1.out.wid.m1]; omega) (by have := usedL_ok HOK1.out.wid; rwa [HHH.out.1] at this) hgap
        rw [usedL_len HOK1.out.wid.m1, HWN.out] at this
        exact this
      have HW2 : Hid (∀ w1, Below w3.heap.size w3 w1 → Calls Try.prog 40 #[.slice A3 (rwN m S N) c3, .int .i64 gap] w1 fun e w' => e = .returned (.int .i64 H) ∧ w1 = w') := Go.Lib.hid fun w1 hw1 => by
        have := whole_any _ A3 c3 (hgtL m S (hsL L) N) gap w1 (HAT3.out.below hw1) (by rw [hgtL_len]; omega) (by have := hgtL_ok (n := (m : Int)) (S := S) HOK1.out.hd; rwa [HHH.out.1] at this) hgap
        rw [hgtL_len, HHN.out] at this
        exact this
      refine region_mono 10 [[], [0], [], [1, 2], [], [4], [], [5, 6], [3, 7], []] (pick [IsV (.pointer (some ⟨p, 1, none⟩)), IsV (.slice A2 (useP m S N).toNat c2), IsV (.int .i64 gap), IsV (.int .i64 W), IsV (.pointer (some ⟨p, 2, none⟩)), IsV (.slice A3 (rwN m S N) c3), IsV (.int .i64 gap), IsV (.int .i64 H), IsV (.agg #[.int .i64 W, .int .i64 H]), PtrV w3.heap.size #[.int .i64 0, .int .i64 0] 31]) mixed (by kernel_rfl) (pick_stable ?_) ?_ ?_
      · simp [IsV.stable, PtrV.stable]
      · simp only [List.take_succ_cons, List.take_zero, MonoObs, DepAll, dsOf, List.map_cons, List.map_nil]
        refine ⟨?_, ?_, ?_, ?_, ?_, ?_, ?_, ?_, ?_, ?_, trivial⟩
        all_goals simp [go_sem, upon1, pick, IsV, PtrV]
        all_goals first
          | exact fun w1 _ => Below.refl _ _
          | (intro w1 hw; rw [(bcell hw).1 _ _ lp, k1]; simp [go_sem, Result.andThen]; exact Below.refl _ _)
          | (intro w1 hw; rw [(bcell hw).1 _ _ lp, k2]; simp [go_sem, Result.andThen]; exact Below.refl _ _)
          | with_reducible exact fun w1 hw => same_up (HW1.out w1 hw)
          | with_reducible exact fun w1 hw => same_up (HW2.out w1 hw)
          | exact fun w1 hw => ⟨⟨hw.size, alloc_get _ _ _⟩, (Below.refl _ _).alloc (Nat.le_refl _) _⟩
      · intro w4 hb4
        simp only [show List.range 10 = [0, 1, 2, 3, 4, 5, 6, 7, 8, 9] from rfl, DepAll, dsOf, List.map_cons, List.map_nil, List.take_succ_cons, List.take_zero]
        rintro _ rfl _ rfl _ rfl _ rfl _ rfl _ rfl _ rfl _ rfl _ rfl v9 ⟨g9, rfl, hg9, h9⟩
        simp only [List.getD_cons_succ, List.getD_cons_zero, List.drop_succ_cons, List.drop_zero]
        have hr4 := (hb4.block _ lr3).trans hr3
        have hs4 := hb4.size
        obtain ⟨j0, j1, i0, i1, lj⟩ := blk2 hr4
        obtain ⟨m0, m1, n0, n1, ln⟩ := blk2 h9
        have hne : g9 ≠ r := by omega
        have hne2 : r ≠ g9 := by omega
        have hB4 : Below w.heap.size w w4 := ((HB1.out.trans (HB2.out.mono (by omega))).trans (HB3.out.mono (by omega))).trans (hb4.mono (by omega))
        have hrg : w.heap.size ≤ r := by have := HRR.out; omega
        clear hr4 h9 hr3 hb4 k1 k2 HW1 HW2
        have hg9w : w.heap.size ≤ g9 := by omega
        by_cases hW : W ≤ 16384
        · by_cases hH : H ≤ 16384
          · have e0 := HE2.out
            rw [if_pos ⟨hW, hH⟩] at e0
            have HEND : Hid (ndR S L col gap = ⟨W, H⟩ ∧ ndE S L col gap = 0) := Go.Lib.hid ⟨by rw [HR.out, if_pos e0], e0⟩
            clear e0
            have hW' : decide (16384 < W) = false := by simpa using hW
            have hH' : ¬ (16384 < H) := by omega
            go_wp2
            rw [HEND.out.1, HEND.out.2]
            exact bodyPost_ret (by simp [results, Try.results11, go_sem, *]) rfl ⟨rfl, (by repeat (first | exact Below.refl _ _ | with_reducible refine Below.alloc ?_ (by first | (simp; done) | (simp; omega) | omega) _ | with_reducible refine Below.setCell ?_ (by first | (simp; done) | (simp; omega) | omega) _ | with_reducible refine Below.drew ?_ | with_reducible refine Below.trans ?_ (Below.mono (by assumption) (by first | (simp; done) | (simp; omega) | omega))))⟩
          · have e0 := HE2.out
            rw [if_neg fun h => hH h.2] at e0
            have HEND : Hid (ndR S L col gap = ⟨0, 0⟩ ∧ ndE S L col gap = 9) := Go.Lib.hid ⟨by rw [HR.out, if_neg (by rw [e0]; decide)], e0⟩
            clear e0
            have hW' : decide (16384 < W) = false := by simpa using hW
            have hH' : 16384 < H := by omega
            go_wp2
            rw [HEND.out.1, HEND.out.2]
            exact bodyPost_ret (by simp [results, Try.results11, go_sem, *]) rfl ⟨rfl, (by repeat (first | exact Below.refl _ _ | with_reducible refine Below.alloc ?_ (by first | (simp; done) | (simp; omega) | omega) _ | with_reducible refine Below.setCell ?_ (by first | (simp; done) | (simp; omega) | omega) _ | with_reducible refine Below.drew ?_ | with_reducible refine Below.trans ?_ (Below.mono (by assumption) (by first | (simp; done) | (simp; omega) | omega))))⟩
        · have e0 := HE2.out
          rw [if_neg fun h => hW h.1] at e0
          have HEND : Hid (ndR S L col gap = ⟨0, 0⟩ ∧ ndE S L col gap = 9) := Go.Lib.hid ⟨by rw [HR.out, if_neg (by rw [e0]; decide)], e0⟩
          clear e0
          have hW' : decide (16384 < W) = true := by simpa using hW
          have hW2 : 16384 < W := by omega
          go_wp2
          rw [HEND.out.1, HEND.out.2]
          exact bodyPost_ret (by simp [results, Try.results11, go_sem, *]) rfl ⟨rfl, (by repeat (first | exact Below.refl _ _ | with_reducible refine Below.alloc ?_ (by first | (simp; done) | (simp; omega) | omega) _ | with_reducible refine Below.setCell ?_ (by first | (simp; done) | (simp; omega) | omega) _ | with_reducible refine Below.drew ?_ | with_reducible refine Below.trans ?_ (Below.mono (by assumption) (by first | (simp; done) | (simp; omega) | omega))))⟩
    · have hll : ¬ ((S.length : Int) = (L.length : Int)) := by omega
      have hE2 := HE.out
      rw [if_pos h0, if_neg hlen] at hE2
      have hR2 := HR.out
      rw [if_neg (by rw [hE2]; decide)] at hR2
      rw [hE2, hR2]
      subst h0
      clear HP HBD HOK HE HR hE2 hR2
      obtain ⟨N, hN⟩ : ∃ N, S.length = N := ⟨_, rfl⟩
      obtain ⟨M, hM⟩ : ∃ N, L.length = N := ⟨_, rfl⟩
      rw [hN, hM] at HW hll ⊢
      clear hlen hN hM
      go_enter Try.func11, Try.ntmps11
      go_wp2_with fail
      refine (HW.out _ (hA.next hB _) (hA2.next hB _) (by simp; omega)).mono ?_
      rintro e w1 ⟨rfl, hb1⟩
      have hb1' : Below w.heap.size w w1 := ((Below.refl _ _).alloc (Nat.le_refl _) _).trans (hb1.mono (by simp))
      obtain ⟨k0, k1, f0, f1, l1⟩ := blk2 ((hb1.block w.heap.size (by simp)).trans (alloc_at _ _))
      clear hb1
      go_wp2
      exact bodyPost_ret (by simp [results, Try.results11, go_sem, *]) rfl ⟨rfl, (by repeat (first | exact Below.refl _ _ | with_reducible refine Below.alloc ?_ (by first | (simp; done) | (simp; omega) | omega) _ | with_reducible refine Below.setCell ?_ (by first | (simp; done) | (simp; omega) | omega) _ | with_reducible refine Below.drew ?_ | with_reducible refine Below.trans ?_ (Below.mono (by assumption) (by first | (simp; done) | (simp; omega) | omega))))⟩
  · have h0' : (E == 0) = false := by simpa using h0
    have hE2 := HE.out
    rw [if_neg h0] at hE2
    have hR2 := HR.out
    rw [if_neg (by rw [hE2]; exact h0)] at hR2
    rw [hE2, hR2]
    clear HP HBD HOK HE HR hE2 hR2
    go_enter Try.func11, Try.ntmps11
    go_wp2_with fail
    refine (HW.out _ (hA.next hB _) (hA2.next hB _) (by simp; omega)).mono ?_
    rintro e w1 ⟨rfl, hb1⟩
    have hb1' : Below w.heap.size w w1 := ((Below.refl _ _).alloc (Nat.le_refl _) _).trans (hb1.mono (by simp))
    obtain ⟨k0, k1, f0, f1, l1⟩ := blk2 ((hb1.block w.heap.size (by simp)).trans (alloc_at _ _))
    clear hb1
    go_wp2
    exact bodyPost_ret (by simp [results, Try.results11, go_sem, *]) rfl ⟨rfl, (by repeat (first | exact Below.refl _ _ | with_reducible refine Below.alloc ?_ (by first | (simp; done) | (simp; omega) | omega) _ | with_reducible refine Below.setCell ?_ (by first | (simp; done) | (simp; omega) | omega) _ | with_reducible refine Below.drew ?_ | with_reducible refine Below.trans ?_ (Below.mono (by assumption) (by first | (simp; done) | (simp; omega) | omega))))⟩
end Go.Proofs.Ytjippgflempdmaa

/- Layer 11: tracks that grow alike, both sides. -/
namespace Go.Proofs.Ytjippgflempdmaa
set_option linter.unusedVariables false
set_option linter.unusedSimpArgs false
set_option maxRecDepth 100000
open Go.RowKit
attribute [local go_sem] max_fold min_fold

def trk (v : Int) : T3 := ⟨v, 0, 1⟩
def trkL (l : List Int) : List T3 := l.map trk
theorem trkL_len (l : List Int) : (trkL l).length = l.length := by simp [trkL]
theorem trk_ok {l : List Int} (h : okN l) (hl : l.length ≤ 1024) : chk (trkL l) = 0 := by
  unfold chk
  rw [trkL_len, if_neg (by omega), if_pos]
  refine List.all_eq_true.2 fun t ht => ?_
  obtain ⟨v, hv, rfl⟩ := List.mem_map.1 ht
  have := h v hv
  rw [mayT_iff]
  exact ⟨this, .inl rfl, by simp [trk], by simp [trk]⟩
theorem trk_row {l : List Int} {gap room : Int} (h : okN l) (hl : l.length ≤ 1024) (hg : okG gap = true) (hr : okR room = true) : rowE (trkL l) gap room = 0 := by
  unfold rowE
  rw [if_pos (trk_ok h hl), hg, hr]
  rfl
theorem t3s_zero3 (n : Nat) : t3s (List.replicate n ⟨0, 0, 0⟩) = List.replicate (n * 3) (.int .i64 0) := by
  induction n with
  | zero => rfl
  | succ n ih =>
    rw [show (n + 1) * 3 = n * 3 + 1 + 1 + 1 by omega]
    simp only [List.replicate_succ, t3s, ih]
theorem made_three3 (v : Value) (n : Nat) : (madeCells #[v, v, v] n).toList = List.replicate n v := by
  apply List.ext_getElem
  · simp [madeCells]
  · intro i h1 h2
    have h3 : i % 3 < 3 := Nat.mod_lt _ (by omega)
    simp only [madeCells, Array.getElem_toList, Array.getElem_map, Array.getElem_range, List.getElem_replicate]
    have : i % 3 = 0 ∨ i % 3 = 1 ∨ i % 3 = 2 := by omega
    rcases this with h | h | h <;> simp [h]
theorem t3s_set (l : List T3) (k : Nat) (u : T3) : (((t3s l).set (k * 3) (.int .i64 u.p)).set (k * 3 + 1) (.int .i64 u.q)).set (k * 3 + 2) (.int .i64 u.r) = t3s (l.set k u) := by
  induction l generalizing k with
  | nil => rfl
  | cons r l ih =>
    cases k with
    | zero => rfl
    | succ k =>
      have e : (k + 1) * 3 = k * 3 + 3 := by omega
      rw [e]
      simp only [t3s, List.set_cons_succ]
      rw [ih]
theorem make_trks (n : Nat) (hn : n ≤ 1000000) (w : World) : (Instr.makeSlice 89 (.int .i64 (n : Int)) (.int .i64 (n : Int))).run Try.prog w = .ok (.slice (some ⟨w.heap.size, 0, none⟩) n n) (w.alloc (.cells (madeCells #[.int .i64 0, .int .i64 0, .int .i64 0] (n * 3)) 99)) := by
  obtain ⟨i0, hi, hz0, hz1, hz2⟩ := info_parts info_track
  have hr := run_make (P := Try.prog) w 89 99 i0 _ Try.underlying89 hi hz0 .i64 .i64 n n (by omega) (Int.le_refl _) (by rw [hz2]; omega) (by omega)
  simp only [Int.toNat_natCast, hz1] at hr
  exact hr
theorem own_trks {w : World} {B g n : Nat} (hB : B ≤ g) (hn : n ≤ 1000000) (h : w.heap[g]? = some (.cells (madeCells #[.int .i64 0, .int .i64 0, .int .i64 0] (n * 3)) 99 (0, 0))) : w.ownsRow B 99 3 (.slice (some ⟨g, 0, none⟩) n n) n (t3s (List.replicate n ⟨0, 0, 0⟩)) := by
  have e : (madeCells #[Value.int .i64 0, Value.int .i64 0, Value.int .i64 0] (n * 3)).toList = t3s (List.replicate n ⟨0, 0, 0⟩) := by
    rw [t3s_zero3, made_three3]
  have e2 : (madeCells #[Value.int .i64 0, Value.int .i64 0, Value.int .i64 0] (n * 3)).size = n * 3 := by
    rw [← Array.length_toList, e, t3s_len]
    simp
  refine ⟨by rw [t3s_len]; simp, .inr ⟨g, n, _, rfl, hB, h, Nat.le_refl _, by unfold maxLen; omega, by omega, ?_⟩⟩
  rw [e]
  rw [← e2, ← Array.length_toList, e, List.take_length]
/-- A row of threes, one written over. -/
theorem own_three {w : World} {base g n c : Nat} {l : List T3} (h : w.ownsRow base 99 3 (.slice (some ⟨g, 0, none⟩) n c) n (t3s l)) (k : Nat) (u : T3) :
    (((w.setCell ⟨g, k * 3, none⟩ (.int .i64 u.p)).setCell ⟨g, k * 3 + 1, none⟩ (.int .i64 u.q)).setCell ⟨g, k * 3 + 2, none⟩ (.int .i64 u.r)).ownsRow base 99 3 (.slice (some ⟨g, 0, none⟩) n c) n (t3s (l.set k u)) := by
  rw [← t3s_set]
  exact own_store (own_store (own_store h _ _) _ _) _ _
def trkX (l : List Int) (N k : Nat) : List T3 := trkL (l.take k) ++ List.replicate (N - k) ⟨0, 0, 0⟩
theorem trkX_len {l : List Int} {N k : Nat} (hl : l.length = N) (h : k ≤ N) : (trkX l N k).length = N := by simp [trkX, trkL_len]; omega
theorem trk_take {l : List Int} {k : Nat} (h : k < l.length) : trkL (l.take (k + 1)) = trkL (l.take k) ++ [trk l[k]] := by
  unfold trkL
  rw [List.take_succ_eq_append_getElem h, List.map_append]
  rfl
theorem trkX_set {l : List Int} {N k : Nat} (hl : l.length = N) (h : k < l.length) : (trkX l N k).set k (trk l[k]) = trkX l N (k + 1) := by
  unfold trkX
  have hk : (trkL (l.take k)).length = k := by rw [trkL_len, List.length_take]; omega
  rw [List.set_append_right _ _ (by omega), hk, Nat.sub_self, trk_take h]
  rw [show N - k = (N - (k + 1)) + 1 by omega, List.replicate_succ, List.set_cons_zero]
  simp
theorem trkX_zero (l : List Int) (N : Nat) : trkX l N 0 = List.replicate N ⟨0, 0, 0⟩ := by simp [trkX, trkL]
theorem trkX_end {l : List Int} {N : Nat} (hl : l.length = N) : trkX l N N = trkL l := by simp [trkX, ← hl]

set_option maxRecDepth 100000 in
set_option maxHeartbeats 4000000 in
theorem grown_any (B : Nat) (A : Option Addr) (c : Nat) (l : List Int) (gap room : Int) (w : World) (hA : At B w A (ints l)) (hB : B ≤ w.heap.size) (hl : l.length ≤ 1024) (hok : okN l) (hg : okG gap = true) (hr : okR room = true) :
    Calls Try.prog 43 #[.slice A l.length c, .int .i64 gap, .int .i64 room] w (Int2E (rowR (trkL l) gap room) (rowB (trkL l) gap room) 0 w) := by
  obtain ⟨N, hN⟩ : ∃ N, l.length = N := ⟨_, rfl⟩
  have HROW : Hid (∀ w' g, w'.ownsRow w.heap.size 99 3 (.slice (some ⟨g, 0, none⟩) N N) N (t3s (trkL l)) → Calls Try.prog 69 #[.slice (some ⟨g, 0, none⟩) N N, .int .i64 gap, .int .i64 room] w' (Int2E (rowR (trkL l) gap room) (rowB (trkL l) gap room) 0 w')) := Go.Lib.hid fun w' g h => by
    have h1 := At.of_own h
    have := Row_any _ (some ⟨g, 0, none⟩) N (trkL l) gap room w' h1 (Nat.le_refl _) (by rw [trkL_len]; omega)
    rw [trkL_len, hN, trk_row hok hl hg hr] at this
    exact this
  have HSET : Hid (∀ k, k < N → (trkX l N k).set k (trk (l.getD k 0)) = trkX l N (k + 1)) := Go.Lib.hid fun k h => by
    have := trkX_set hN (k := k) (by omega)
    rwa [show l[k]'(by omega) = l.getD k 0 by simp [List.getD, show k < l.length by omega]] at this
  have HEND := Go.Lib.hid (trkX_end hN)
  have HLEN : Hid (∀ k, k ≤ N → (trkX l N k).length = N) := Go.Lib.hid fun k h => trkX_len hN h
  have HNN := Go.Lib.hid hN
  have HOK := Go.Lib.hid hok
  have hmk := make_trks N (by omega)
  rw [hN] at hl ⊢
  clear hN hok hg hr
  go_enter Try.func43, Try.ntmps43
  go_wp2
  clear hmk
  have hb0 : Below w.heap.size w (w.alloc (.cells (madeCells #[.int .i64 0, .int .i64 0, .int .i64 0] (N * 3)) 99)) := (Below.refl _ _).alloc (Nat.le_refl _) _
  have ho0 : (w.alloc (.cells (madeCells #[.int .i64 0, .int .i64 0, .int .i64 0] (N * 3)) 99)).ownsRow w.heap.size 99 3 (.slice (some ⟨w.heap.size, 0, none⟩) N N) N (t3s (trkX l N 0)) := by
    rw [trkX_zero]
    exact own_trks (Nat.le_refl _) (by omega) (alloc_at _ _)
  have HST := Go.Lib.hid (And.intro hb0 ho0)
  clear hb0 ho0
  generalize World.alloc w _ = w0 at *
  obtain ⟨g, hgg⟩ : ∃ g, w.heap.size = g := ⟨_, rfl⟩
  have HGG := Go.Lib.hid hgg
  have HST2 : Hid (Below w.heap.size w w0 ∧ w0.ownsRow w.heap.size 99 3 (.slice (some ⟨g, 0, none⟩) N N) N (t3s (trkX l N 0))) := Go.Lib.hid (by have := HST.out; rw [hgg] at this ⊢; exact this)
  rw [hgg]
  clear HST hgg
  go_loopw [10, 11, 17] (fun _ _ i_ wr => ∃ k : Nat, k ≤ N ∧ i_ = .int .i64 k ∧ Hid (Below w.heap.size w wr ∧ wr.ownsRow w.heap.size 99 3 (.slice (some ⟨g, 0, none⟩) N N) N (t3s (trkX l N k)))) (fun _ _ i_ _ => N - (intOf i_).toNat)
  case atStart => exact ⟨0, by omega, rfl, HST2⟩
  case round =>
    clear HST2
    obtain ⟨k, hk, rfl, H⟩ := hrel
    by_cases hlt : k < N
    · have hli : (k : Int) < (N : Int) := by omega
      have hkl : k < l.length := by have := HNN.out; omega
      obtain ⟨g2, o2, rfl, hg2, x1⟩ := (hA.below (H.out.1.mono hB)).int hkl
      rw [show l[k] = l.getD k 0 by simp [List.getD, hkl]] at x1
      have HS := Go.Lib.hid (HSET.out k hlt)
      have hkx : k < (trkX l N k).length := by rw [HLEN.out k hk]; exact hlt
      obtain ⟨e0, e1, e2⟩ := t3s_at (trkX l N k) k hkx
      have hc0 := H.out.2.cellAt (k * 3) (by omega)
      have hc1 := H.out.2.cellAt (k * 3 + 1) (by omega)
      have hc2 := H.out.2.cellAt (k * 3 + 2) (by omega)
      rw [e0] at hc0
      rw [e1] at hc1
      rw [e2] at hc2
      have hf0 := At.frozen_own H.out.2 (k * 3)
      have hf1 := At.frozen_own H.out.2 (k * 3 + 1)
      have hf2 := At.frozen_own H.out.2 (k * 3 + 2)
      have lg := World.block_lt_of_cell? _ _ hc0
      have lg2 := World.block_lt_of_cell? _ _ x1
      generalize l.getD k 0 = v at *
      generalize (trkX l N k)[k] = t0 at *
      clear e0 e1 e2 hkx
      go_wp2
      go_roundw
      case rel =>
        refine ⟨k + 1, by omega, by go_num, Go.Lib.hid ⟨?_, ?_⟩⟩
        · have hgw : w.heap.size ≤ g := by have := HGG.out; omega
          exact ((H.out.1.setCell (p := ⟨g, k * 3, none⟩) hgw _).setCell (p := ⟨g, k * 3 + 1, none⟩) hgw _).setCell (p := ⟨g, k * 3 + 2, none⟩) hgw _
        · rw [← HS.out]
          exact own_three H.out.2 k (trk v)
      case measure => simp [intOf]; omega
    · have hlt' : ¬ ((k : Int) < (N : Int)) := by omega
      have hkn : k = N := by omega
      subst hkn
      rw [HEND.out] at H
      clear hA
      go_wp2_with fail
      refine (HROW.out _ _ H.out.2).mono ?_
      rintro e w4 ⟨A1, c1, A2, c2, rfl, h1, h2, h3, h4⟩
      have HF := Go.Lib.hid (⟨h1, h2, h3, h4⟩ : _ ∧ _ ∧ _ ∧ _)
      clear h1 h2 h3 h4
      go_wp2
      have hs0 : w.heap.size ≤ wr.heap.size := H.out.1.size
      have HFIN : Int2E (rowR (trkL l) gap room) (rowB (trkL l) gap room) 0 w (.returned (.tuple #[.slice A1 (rowR (trkL l) gap room).length c1, .slice A2 (rowB (trkL l) gap room).length c2, .int .i64 0])) w4 :=
        ⟨A1, c1, A2, c2, rfl, own_mono HF.out.1 hs0, own_mono HF.out.2.1 hs0, HF.out.2.2.1, H.out.1.trans (HF.out.2.2.2.mono hs0)⟩
      exact bodyPost_ret (by simp [results, Try.results43, go_sem]) rfl HFIN

section
variable {ops : Array Oper} {rest : List Oper} {o : Oper} {a : Act} {Q : Exit → Act → World → Prop} {w : World}
theorem append_trk (hgd : o.guard = none) (s x : Operand) (ho : o.op = .call { callee := .builtin .append, args := #[s, x], argTypes := #[89, 89] }) (base : Nat) (v : Value) (l : List T3) (t : T3) (g : Nat)
    (hs : a.eval s = v) (hx : a.eval x = .slice (some ⟨g, 0, none⟩) 1 1) (hown : w.ownsRow base 99 3 v l.length (t3s l)) (h0 : w.cell? ⟨g, 0, none⟩ = some (.int .i64 t.p)) (h1 : w.cell? ⟨g, 1, none⟩ = some (.int .i64 t.q)) (h2 : w.cell? ⟨g, 2, none⟩ = some (.int .i64 t.r)) (hn : l.length ≤ 1000000) (hbase : base ≤ w.heap.size)
    (h : ∀ v' w', w'.ownsRow base 99 3 v' (l ++ [t]).length (t3s (l ++ [t])) → w.grownBy w' v.ownBlock → wpList Try.prog ops Q rest (a.put o.dst v') w') : wpList Try.prog ops Q (o :: rest) a w := by
  obtain ⟨i0, hi, hz0, hz1, hz2⟩ := info_parts info_track
  refine wpList_append_own_at w hgd s x 89 ho base 99 i0 _ 3 24 Try.underlying89 hi hz0 hz1 hz2 rfl (by decide) v l.length (t3s l) hs hown ⟨g, 0, none⟩ 1 1 (t3s [t]) hx rfl (fun j u hj => ?_) (t3s_one _) (by unfold maxLen; omega) (by omega) hbase (fun v' w' h4 h5 _ h6 => ?_)
  · match j, hj with
    | 0, hj => simp [t3s] at hj; subst hj; simpa [Addr.add] using h0
    | 1, hj => simp [t3s] at hj; subst hj; simpa [Addr.add] using h1
    | 2, hj => simp [t3s] at hj; subst hj; simpa [Addr.add] using h2
    | j + 3, hj => simp [t3s] at hj
  · exact h v' w' (by rw [t3s_append, List.length_append]; exact h4) h5
end
def TrkPost (L : List T3) (n : Nat) (w : World) (e : Ending) (w' : World) : Prop := ∃ A c, e = .returned (.slice A n c) ∧ w'.ownsRow w.heap.size 99 3 (.slice A n c) n (t3s L) ∧ Below w.heap.size w w'

set_option maxRecDepth 100000 in
set_option maxHeartbeats 4000000 in
theorem rtracks_any (B : Nat) (A : Option Addr) (c : Nat) (l : List Int) (w : World) (hA : At B w A (ints l)) (hB : B ≤ w.heap.size) (hl : l.length ≤ 1024) :
    Calls Try.prog 57 #[.slice A l.length c] w (TrkPost (trkL l) l.length w) := by
  obtain ⟨N, hN⟩ : ∃ N, l.length = N := ⟨_, rfl⟩
  have HNN := Go.Lib.hid hN
  rw [hN] at hl ⊢
  clear hN
  go_enter Try.func57, Try.ntmps57
  go_wp2
  go_loopw [3, 4] (fun a_ i_ wr => ∃ k : Nat, k ≤ N ∧ i_ = .int .i64 k ∧ Hid (wr.ownsRow w.heap.size 99 3 a_ k (t3s (trkL (l.take k))) ∧ Below w.heap.size w wr)) (fun _ i_ _ => N - (intOf i_).toNat)
  case atStart => exact ⟨0, by omega, rfl, Go.Lib.hid ⟨World.ownsRow_nil _ _ _ _, Below.refl _ _⟩⟩
  case round =>
    obtain ⟨k, hk, rfl, H⟩ := hrel
    by_cases hlt : k < N
    · have hli : (k : Int) < (N : Int) := by omega
      have hkl : k < l.length := by have := HNN.out; omega
      obtain ⟨g, o, rfl, hg, x1⟩ := (hA.below (H.out.2.mono hB)).int hkl
      have HT := Go.Lib.hid (trk_take hkl)
      have HK : Hid ((trkL (l.take k)).length = k) := Go.Lib.hid (by rw [trkL_len, List.length_take]; omega)
      have lg := World.block_lt_of_cell? _ _ x1
      have hsr := H.out.2.size
      generalize l[k] = v at *
      generalize trkL (l.take k) = L at *
      go_wp2_with (first | (at_builtin; refine append_trk rfl (.tmp 11) (.tmp 17) rfl w.heap.size _ L (trk v) wr.heap.size rfl rfl (own_len' (H.out.1.alloc _) HK.out.symm) (by simp [go_sem, trk]) (by simp [go_sem, trk]) (by simp [go_sem, trk]) ?_ ?_ ?_))
      · rw [HK.out]; omega
      · (try simp); omega
      intro v3 w4 hown4 hg4
      have H4 : Hid (w4.ownsRow w.heap.size 99 3 v3 (k + 1) (t3s (L ++ [trk v])) ∧ Below w.heap.size w w4) := Go.Lib.hid ⟨own_len' hown4 (by simp [HK.out]), (H.out.2.alloc H.out.2.size _).grown hg4 (by have := H.out.2.size; simp; omega) (own_ge H.out.1)⟩
      rw [← HT.out] at H4
      clear hown4 hg4
      go_wp2
      go_roundw
      case rel => exact ⟨k + 1, by omega, by go_num, H4⟩
      case measure => simp [intOf]; omega
    · have hlt' : ¬ ((k : Int) < (N : Int)) := by omega
      have hkn : k = N := by omega
      subst hkn
      have ht : l.take k = l := by rw [← HNN.out, List.take_length]
      rw [ht] at H
      obtain ⟨A1, c1, rfl⟩ := own_shape H.out.1
      clear ht
      go_wp2
      go_ret
      exact ⟨A1, c1, rfl, H.out.1, H.out.2⟩
end Go.Proofs.Ytjippgflempdmaa
