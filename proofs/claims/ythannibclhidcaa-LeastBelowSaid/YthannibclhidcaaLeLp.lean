/- Layer 9: the program's Loop. -/
import Derived.Test.YthannibclhidcaaLeLr
namespace Go.Proofs.Ythannibclhidcaa
set_option linter.unusedVariables false
set_option linter.unusedSimpArgs false
open Go.RowKit
attribute [local go_sem] max_fold min_fold

/-- What the closure reads: two variables of their own, the bounds, by which bound each number was made (and 1). -/
structure LMem (B : Nat) (w : World) (A : Option Addr) (L : List T3) (n c gx gm g3 g7 : Nat) (M : List Int) (k : Int) (wr : World) : Prop where
  arg : At B wr A (t3s L)
  b3 : wr.heap[g3]? = some (.cells #[.slice A L.length c] 43 (0, 0))
  b7 : wr.heap[g7]? = some (.cells (wcells n gx gm k) 63 (0, 0))
  om : wr.ownsRow w.heap.size 3 1 (.slice (some ⟨gm, 0, none⟩) n n) n (ints (ups M))
theorem LMem.on {B n c gx gm g3 g7 : Nat} {w wr w' : World} {A : Option Addr} {L : List T3} {M : List Int} {k : Int} (h : LMem B w A L n c gx gm g3 g7 M k wr) (hb : Below wr.heap.size wr w') : LMem B w A L n c gx gm g3 g7 M k w' :=
  ⟨h.arg.ext hb, (hb.block _ (blk_lt2 h.b3)).trans h.b3, (hb.block _ (blk_lt2 h.b7)).trans h.b7, own_below' h.om hb⟩
theorem LMem.cells {B n c gx gm g3 g7 : Nat} {w wr : World} {A : Option Addr} {L : List T3} {M : List Int} {k : Int} (h : LMem B w A L n c gx gm g3 g7 M k wr) : wr.cell? ⟨g3, 0, none⟩ = some (.slice A L.length c) ∧ wr.cell? ⟨g7, 1, none⟩ = some (.slice (some ⟨gm, 0, none⟩) n n) ∧ wr.cell? ⟨g7, 2, none⟩ = some (.int .i64 k) := by
  have h3 := blk_cell h.b3
  have h7 := blk_cell h.b7
  exact ⟨by rw [h3 0]; rfl, by rw [h7 1]; rfl, by rw [h7 2]; rfl⟩
theorem LMem.made {B n c gx gm g3 g7 : Nat} {w wr : World} {A : Option Addr} {L : List T3} {M : List Int} {k : Int} (h : LMem B w A L n c gx gm g3 g7 M k wr) (hM : M.length = n) {v : Nat} (hv : v < n) : wr.cell? ⟨gm, v, none⟩ = some (.int .i64 (M.getD v 0 + 1)) := by
  rw [cell_made h.om (by rw [ups_len]; exact hM) hv, ups_at M v (by omega)]

set_option maxRecDepth 100000 in
set_option maxHeartbeats 4000000 in
theorem behind_any {B n c gx gm g3 g7 : Nat} {w wr : World} {A : Option Addr} {L : List T3} {M : List Int} {k : Int} (h : LMem B w A L n c gx gm g3 g7 M k wr) (hM : M.length = n) (hn : n ≤ 4096) (hl : L.length ≤ 4096) (hL : okL n L) {v j : Nat} (hv : v < n) (hj : M.getD v 0 = (j : Int)) (hjL : j < L.length) :
    Calls Try.prog 58 #[.int .i64 v, .pointer (some ⟨g3, 0, none⟩), .pointer (some ⟨g7, 0, none⟩)] wr fun e w' => e = .returned (.int .i64 (pn L j)) ∧ Below wr.heap.size wr w' := by
  obtain ⟨h1, h2, _⟩ := h.cells
  have h3 := h.made hM hv
  rw [hj] at h3
  obtain ⟨g, o, rfl, hg, c0, c1, c2⟩ := h.arg.t3 hjL
  rw [← bk_at hjL] at c0
  obtain ⟨q1, q2, q3, q4⟩ := okB_pq hL hjL
  rw [← q3] at c0
  generalize pn L j = p at *
  clear h hM hL hj c1 c2 q3 q4
  go_enter Try.func58, Try.ntmps58
  go_wp2
  go_region
  go_wp2
  go_ret
  exact ⟨rfl, (by repeat (first | exact Below.refl _ _ | with_reducible refine Below.alloc ?_ (by first | (simp; done) | (simp; omega) | omega) _ | with_reducible refine Below.setCell ?_ (by first | (simp; done) | (simp; omega) | omega) _ | with_reducible refine Below.drew ?_ | with_reducible refine Below.trans ?_ (Below.mono (by assumption) (by first | (simp; done) | (simp; omega) | omega))))⟩

/-- The least of the first bounds on the way back. -/
def minL (L : List T3) (s : St) (u : Nat) : Nat → Nat
  | 0 => mdB L s u 0
  | a + 1 => min (minL L s u a) (mdB L s u (a + 1))
theorem minL_le (L : List T3) (s : St) (u : Nat) : ∀ a i, i ≤ a → minL L s u a ≤ mdB L s u i := by
  intro a
  induction a with
  | zero => intro i hi; rw [show i = 0 by omega]; exact Nat.le_refl _
  | succ a ih =>
    intro i hi
    unfold minL
    by_cases e : i = a + 1
    · rw [e]
      exact Nat.min_le_right _ _
    · have := ih i (by omega)
      omega
theorem minL_is (L : List T3) (s : St) (u : Nat) : ∀ a, ∃ i, i ≤ a ∧ minL L s u a = mdB L s u i := by
  intro a
  induction a with
  | zero => exact ⟨0, Nat.le_refl _, rfl⟩
  | succ a ih =>
    obtain ⟨i, hi, e⟩ := ih
    unfold minL
    rcases Nat.le_total (minL L s u a) (mdB L s u (a + 1)) with h | h
    · exact ⟨i, by omega, by rw [Nat.min_eq_left h]; exact e⟩
    · exact ⟨a + 1, Nat.le_refl _, Nat.min_eq_right h⟩
theorem minL_arg {L : List T3} {s : St} {u p b : Nat} (h : Arg L s u p b) : minL L s u (p - 1) = mdB L s u b := by
  have h1 := minL_le L s u (p - 1) b (by have := h.lt; omega)
  obtain ⟨i, hi, e⟩ := minL_is L s u (p - 1)
  have h2 := h.le i (by have := h.lt; omega)
  omega
theorem own_one {w : World} {B g : Nat} {x : Int} (hB : B ≤ g) (h : w.heap[g]? = some (.cells #[.int .i64 x] 3 (0, 0))) : w.ownsRow B 3 1 (.slice (some ⟨g, 0, none⟩) 1 1) 1 (ints [x]) :=
  ⟨by simp [ints], .inr ⟨g, 1, _, rfl, hB, h, Nat.le_refl _, by unfold maxLen; omega, by simp, by simp [ints]⟩⟩
theorem min_up (a b : Nat) : min ((a : Int) + 1) ((b : Int) + 1) = ((min a b : Nat) : Int) + 1 := by omega

set_option maxRecDepth 100000 in
set_option maxHeartbeats 8000000 in
theorem Loop_any (B : Nat) (A : Option Addr) (c : Nat) (n : Int) (L : List T3) (R : List Int) (E : Int) (w : World) (hA : At B w A (t3s L)) (hB : B ≤ w.heap.size) (hl : L.length ≤ 9000000000000000000) (hR : LoopIs n L R E) :
    Calls Try.prog 34 #[.int .i64 n, .slice A L.length c] w (IntsE R E w) := by
  have hbx : ∀ o : Obj, Below w.heap.size w (w.alloc o) := fun o => (Below.refl _ _).alloc (Nat.le_refl _) o
  cases hR with
  | bad h0 =>
    have hne : (chkN n L != 0) = true := by simpa using h0
    go_enter Try.func34, Try.ntmps34
    go_wp2_with fail
    refine (checkN_any B A c n L _ (hA.ext (hbx _)) (by simp; omega) hl).mono ?_
    rintro e w1 ⟨rfl, hb1⟩
    go_wp2
    go_ret2
    exact IntsE.none ((hbx _).trans (hb1.mono (by simp)))
  | none h0 hlast =>
    obtain ⟨m, rfl, hm, hlm, hL⟩ := chkN_ok h0
    have HC := Go.Lib.hid (fun w h1 h2 => h0 ▸ checkN_any B A c (m : Int) L w h1 h2 hl)
    have HR := Go.Lib.hid (fun w h1 h2 => rounds_any B A c m L w h1 h2 hm hlm hL)
    simp only [Int.toNat_natCast] at hlast
    clear h0
    go_enter Try.func34, Try.ntmps34
    go_wp2_with fail
    refine (HC.out _ (hA.ext (hbx _)) (by simp; omega)).mono ?_
    rintro e w1 ⟨rfl, hb1⟩
    have hbw1 := (hbx _).trans (hb1.mono (by simp))
    have hA1 := hA.ext hbw1
    have hs1 := hbw1.size
    have hbk3 := (hb1.block w.heap.size (by simp)).trans (alloc_at w _)
    have k3 := blk_cell hbk3 0
    simp at k3
    go_wp2_with fail
    refine (HR.out _ hA1 (by omega)).mono ?_
    rintro e w2 ⟨gx, gm, k, rfl, hk, _, hox, _, hb2⟩
    have hk0 : k = 0 := by omega
    subst hk0
    have hs2 := hb2.size
    go_wp2
    go_ret2
    exact IntsE.none ((hbw1.trans (hb2.mono hs1)).alloc (by omega) _)
  | some h0 v p b t hv hlast hh hc hb =>
    obtain ⟨m, rfl, hm, hlm, hL⟩ := chkN_ok h0
    have HC := Go.Lib.hid (fun w h1 h2 => h0 ▸ checkN_any B A c (m : Int) L w h1 h2 hl)
    have HR := Go.Lib.hid (fun w h1 h2 => rounds_any B A c m L w h1 h2 hm hlm hL)
    simp only [Int.toNat_natCast] at hlast hv hh hc hb ⊢
    unfold RPPost at HR
    have hml := (fin_len m L).2
    generalize fin m L = F at *
    rw [hlast] at HR
    have HBH := Go.Lib.hid (fun (w : World) (gx gm g3 g7 : Nat) (k : Int) (wr : World) (h : LMem B w A L m c gx gm g3 g7 F.m k wr) (v j : Nat) (hv : v < m) (hj : F.m.getD v 0 = (j : Int)) (hjL : j < L.length) => behind_any h hml hm hlm hL hv hj hjL)
    have HO := Go.Lib.hid hL
    have HH := Go.Lib.hid hh
    have HCY := Go.Lib.hid hc
    have HB := Go.Lib.hid hb
    have hp0 := hc.pos
    have hpm := hc.le
    have hbp := hb.lt
    obtain ⟨R, hR⟩ : ∃ R, loopL L F (itB L F m v) p b = R := ⟨_, rfl⟩
    have HOUT : Hid (R = outL L F (itB L F m v) p b p) := Go.Lib.hid hR.symm
    rw [hR]
    clear h0 hlast hL hh hc hb hR
    go_enter Try.func34, Try.ntmps34
    go_wp2_with fail
    refine (HC.out _ (hA.ext (hbx _)) (by simp; omega)).mono ?_
    rintro e w1 ⟨rfl, hb1⟩
    have hbw1 := (hbx _).trans (hb1.mono (by simp))
    have hA1 := hA.ext hbw1
    have hs1 := hbw1.size
    have hbk3 := (hb1.block w.heap.size (by simp)).trans (alloc_at w _)
    have k3 := blk_cell hbk3 0
    simp at k3
    go_wp2_with fail
    refine (HR.out _ hA1 (by omega)).mono ?_
    rintro e w2 ⟨gx, gm, k, rfl, hk, _, hox, hom, hb2⟩
    have hs2 := hb2.size
    have hlt3 := blk_lt2 hbk3
    have hbz : Below w.heap.size w (w2.alloc (Obj.cells (wcells m gx gm k) 63)) := (hbw1.trans (hb2.mono hs1)).alloc (by omega) _
    have hLM : LMem B w1 A L m c gx gm w.heap.size w2.heap.size F.m k (w2.alloc (Obj.cells (wcells m gx gm k) 63)) := by
      have ha := (Below.refl w2.heap.size w2).alloc (Nat.le_refl _) (Obj.cells (wcells m gx gm k) 63)
      exact ⟨(hA1.ext hb2).ext ha, (ha.block _ (by omega)).trans ((hb2.block _ hlt3).trans hbk3), alloc_at _ _, hom.alloc _⟩
    obtain ⟨wz, hwz⟩ : ∃ wz, w2.alloc (Obj.cells (wcells m gx gm k) 63) = wz := ⟨_, rfl⟩
    rw [hwz] at hLM hbz
    have HL := Go.Lib.hid hLM
    have HBZ := Go.Lib.hid hbz
    have HWZ := Go.Lib.hid hwz
    have hk2 : ¬ k = 0 := by omega
    have hk3 : (k == 0) = false := by simpa using hk2
    have hk4 : k - 1 = (v : Int) := by omega
    clear HC HR hA hA1 hb1 hbw1 hb2 hbk3 hlt3 hbx hbz hLM hwz hox hom hk
    go_wp2
    have hwz2 : w2.alloc (Obj.cells #[.slice (some ⟨gx, 0, none⟩) m m, .slice (some ⟨gm, 0, none⟩) m m, .int .i64 k] 63) = wz := HWZ.out
    rw [hwz2]
    clear hwz2 HWZ
    have hswz := HBZ.out.size
    generalize hg7 : w2.heap.size = g7 at HL ⊢
    generalize hg3 : w.heap.size = g3 at HL ⊢
    clear hg3 hg7 hs1 hs2 k3 hk2 hk3 hk4
    go_loopw [9, 33] (fun v_ i_ wr => ∃ i : Nat, i ≤ m ∧ i_ = .int .i64 i ∧ v_ = .int .i64 (itB L F i v) ∧ Below wz.heap.size wz wr) (fun _ i_ _ => m - (intOf i_).toNat)
    case atStart => exact ⟨0, by omega, rfl, rfl, Below.refl _ _⟩
    case round =>
      obtain ⟨i, hi, rfl, rfl, hbr⟩ := hrel
      by_cases hlt : i < m
      · have hli : (i : Int) < (m : Int) := by omega
        obtain ⟨j, hj⟩ := HH.out i hlt
        have HIT := Go.Lib.hid (it_succ hj)
        have HC1 := Go.Lib.hid (HBH.out _ _ _ _ _ _ _ (HL.out.on hbr) _ _ hj.vn hj.made hj.jl)
        clear hj
        generalize itB L F i v = vk at *
        go_wp2_with fail
        refine HC1.out.mono ?_
        rintro e w4 ⟨rfl, hb4⟩
        go_wp2
        go_roundw
        case rel => exact ⟨i + 1, by omega, by go_num, by rw [HIT.out], hbr.trans (hb4.mono hbr.size)⟩
        case measure => simp [intOf]; omega
      · have hlt' : ¬ ((i : Int) < (m : Int)) := by omega
        have him : i = m := by omega
        subst him
        obtain ⟨u, hu⟩ : ∃ u, itB L F i v = u := ⟨_, rfl⟩
        rw [hu] at HCY HB HOUT ⊢
        obtain ⟨j, hj⟩ := HCY.out.has 0
        have hHL := HL.out.on hbr
        obtain ⟨a0, a1, a2⟩ := hHL.cells
        have hj0 : Has i L F t u j := hj
        have xm := hHL.made hml hj0.vn
        rw [hj0.made] at xm
        have HIT : Hid (itB L F 1 u = pn L j) := Go.Lib.hid (it_succ hj)
        have HC1 := Go.Lib.hid fun wr h => HBH.out w1 gx gm g3 g7 k wr h _ _ hj0.vn hj0.made hj0.jl
        have HMD : Hid (minL L F u 0 = j) := Go.Lib.hid hj.mdB
        have hun := hj0.vn
        have hlg := (hHL.om.lt gm rfl).2
        clear hj hj0 HH hu hlt
        go_wp2_with fail
        refine (HC1.out _ hHL).mono ?_
        rintro e w4 ⟨rfl, hb4⟩
        have hbz4 := hbr.trans (hb4.mono hbr.size)
        clear hbr hHL a0 a1 a2 xm HC1 hb4
        go_wp2
        go_loopg [10, 11] (p - 1) (fun gk le_ u_ wr => ∃ a : Nat, 1 ≤ a ∧ a + gk = p ∧ le_ = .int .i64 ((minL L F u (a - 1) : Nat) + 1) ∧ u_ = .int .i64 (itB L F a u) ∧ Below wz.heap.size wz wr)
        case atStart => exact ⟨1, by omega, by omega, by rw [HMD.out], by rw [HIT.out], hbz4⟩
        case round =>
          clear hbz4 HMD HIT
          obtain ⟨a, ha1, hag, rfl, rfl, hbr⟩ := hrel
          have HGK := Go.Lib.hid hag
          clear hag
          by_cases hap : a < p
          · obtain ⟨j, hj⟩ := HCY.out.has a
            have hHL := HL.out.on hbr
            obtain ⟨a0, a1, a2⟩ := hHL.cells
            have xm := hHL.made hml hj.vn
            rw [hj.made] at xm
            have HIT := Go.Lib.hid (it_succ hj)
            have HC1 := Go.Lib.hid fun wr h => HBH.out w1 gx gm g3 g7 k wr h _ _ hj.vn hj.made hj.jl
            have hmn : minL L F u (a + 1 - 1) = min (minL L F u (a - 1)) j := by
              rw [show a + 1 - 1 = (a - 1) + 1 by omega]
              show min (minL L F u (a - 1)) (mdB L F u (a - 1 + 1)) = _
              rw [show a - 1 + 1 = a by omega, hj.mdB]
            have HMN := Go.Lib.hid hmn
            have hne := HCY.out.min a ha1 hap
            have hvn := hj.vn
            have hjl := hj.jl
            have hlg := (hHL.om.lt gm rfl).2
            have hml2 : minL L F u (a - 1) < L.length := by
              obtain ⟨i', _, e⟩ := minL_is L F u (a - 1)
              rw [e]
              exact (HCY.out.md i').1.jl
            clear hj hmn
            generalize itB L F a u = ua at *
            generalize minL L F u (a - 1) = mn at *
            obtain ⟨y, hy⟩ : ∃ y : Int, (j : Int) + 1 = y := ⟨_, rfl⟩
            obtain ⟨le, hle⟩ : ∃ le : Int, (mn : Int) + 1 = le := ⟨_, rfl⟩
            rw [hy] at xm
            rw [hle]
            have HY := Go.Lib.hid hy
            have HLE := Go.Lib.hid hle
            clear hy hle
            have hne2 : ¬ (ua : Int) = (u : Int) := by omega
            have hne3 : ((ua : Int) != (u : Int)) = true := by simp; omega
            go_wp2_with fail
            refine (HC1.out _ hHL).mono ?_
            rintro e w5 ⟨rfl, hb5⟩
            go_wp2
            go_roundg (gk - 1)
            case measure => have := HGK.out; omega
            case rel => exact ⟨a + 1, by omega, by have := HGK.out; omega, by rw [HMN.out, ← min_up, HLE.out, HY.out], by rw [HIT.out], hbr.trans (hb5.mono hbr.size)⟩
          · have hae : a = p := by have := HGK.out; omega
            subst hae
            rw [HCY.out.back, minL_arg HB.out]
            obtain ⟨hmb, hmb2⟩ := HCY.out.md b
            have hjl := hmb.jl
            have hqb := hmb.qv
            obtain ⟨u', hu'⟩ : ∃ u', itB L F b u = u' := ⟨_, rfl⟩
            obtain ⟨jb, hjb⟩ : ∃ jb, mdB L F u b = jb := ⟨_, rfl⟩
            rw [hu'] at hqb
            rw [hjb] at hqb hjl ⊢
            have HCY2 : Hid (Cyc i L F t u' a) := Go.Lib.hid (hu' ▸ HCY.out.shift b)
            have HMA : Hid (∀ x, mdB L F u' x = mdB L F u (x + b)) := Go.Lib.hid fun x => hu' ▸ md_add
            have HPB := Go.Lib.hid (HCY.out.per b)
            obtain ⟨g, o, rfl, hg, c0, c1, c2⟩ := HL.out.arg.t3 hjl
            rw [← bk_at hjl] at c1
            obtain ⟨q1, q2, q3, q4⟩ := okB_pq HO.out hjl
            rw [← q4, hqb] at c1
            rw [hqb] at q2
            have HQ1 := Go.Lib.hid c1
            have k1 := cell_on hbr c1
            obtain ⟨a0, a1, a2⟩ := (HL.out.on hbr).cells
            have lg := World.block_lt_of_cell? _ _ k1
            clear c0 c1 c2 q1 q3 q4 hmb hmb2 hu' hjb hqb
            go_wp2
            clear a0 a1 a2 k1 lg
            go_loopw [12, 13] (fun b_ u_ wr => ∃ (x : Nat) (A' : Option Addr) (c' : Nat), x < a ∧ u_ = .int .i64 (itB L F x u') ∧ b_ = .slice A' x c' ∧ Hid (wr.ownsRow wz.heap.size 3 1 (.slice A' x c') x (ints (backL L F u' x))) ∧ Below wz.heap.size wz wr) (fun b_ _ _ => a - lenV b_)
            case atStart => exact ⟨0, none, 0, by omega, rfl, rfl, Go.Lib.hid (World.ownsRow_nil _ _ _ _), hbr⟩
            case round =>
              clear hbr
              obtain ⟨x, A', c', hx, rfl, rfl, HOW, hbr⟩ := hrel
              have hsr := hbr.size
              obtain ⟨j, hj⟩ := HCY2.out.has x
              have hHL := HL.out.on hbr
              obtain ⟨a0, a1, a2⟩ := hHL.cells
              have xm := hHL.made hml hj.vn
              rw [hj.made] at xm
              have hmd := hj.mdB
              have HIT := Go.Lib.hid (it_succ hj)
              have HC1 := Go.Lib.hid fun wr h => HBH.out w1 gx gm g3 g7 k wr h _ _ hj.vn hj.made hj.jl
              have HXM := Go.Lib.hid fun (wr : World) (h : LMem B w1 (some ⟨g, o, none⟩) L i c gx gm g3 g7 F.m k wr) => (hj.made ▸ h.made hml hj.vn : wr.cell? ⟨gm, _, none⟩ = some (.int .i64 ((j : Int) + 1)))
              obtain ⟨g', o', e, hg', c0, c1, c2⟩ := HL.out.arg.t3 hj.jl
              injection e with e
              injection e with e1 e2
              subst e1 e2
              rw [← bk_at hj.jl] at c0
              obtain ⟨q1, q3, q4, q5⟩ := okB_pq HO.out hj.jl
              rw [← q4] at c0
              have HC0 := Go.Lib.hid c0
              have hbs := backL_succ L F u' x
              rw [hmd] at hbs
              have HBS := Go.Lib.hid hbs
              have hlm := backL_len L F u' x
              have hvn := hj.vn
              have hjl2 := hj.jl
              have hlast : (x + 1 = a → pn L j = u') ∧ (x + 1 < a → pn L j ≠ u') := by
                rw [← it_succ hj]
                exact ⟨fun h => by rw [h]; exact HCY2.out.back, fun h => HCY2.out.min (x + 1) (by omega) h⟩
              have HLAST := Go.Lib.hid hlast
              clear hj q3 q4 q5 hbs c0 c1 c2 hmd hlast
              generalize itB L F x u' = ux at *
              generalize backL L F u' x = M at *
              subst hlm
              go_wp2_with (first | (at_builtin; refine append_int rfl (.tmp 69) (.tmp 76) rfl wz.heap.size _ M (j : Int) wr.heap.size rfl rfl (HOW.out.alloc _) (by simp [go_sem]) ?_ ?_ ?_))
              · omega
              · (try simp); omega
              intro v2 w3 hown3 hg3 _
              obtain ⟨A2, c2, rfl⟩ := own_shape hown3
              have hb3 : Below wz.heap.size wz w3 := (hbr.alloc hsr _).grown hg3 (by simp; omega) (own_ge HOW.out)
              have HO3 := Go.Lib.hid hown3
              clear hg3 HOW hown3 a0 a1 a2 xm hHL
              have hHL := HL.out.on hb3
              obtain ⟨a0, a1, a2⟩ := hHL.cells
              have xm := HXM.out _ hHL
              have k0 := cell_on hb3 HC0.out
              have k1 := cell_on hb3 HQ1.out
              have lg0 := World.block_lt_of_cell? _ _ k0
              have lg1 := World.block_lt_of_cell? _ _ a1
              have lg2 := World.block_lt_of_cell? _ _ a0
              have lg3 := World.block_lt_of_cell? _ _ xm
              clear hHL
              obtain ⟨pj, hpj⟩ : ∃ pj, pn L j = pj := ⟨_, rfl⟩
              rw [hpj] at k0 HLAST HIT HC1
              clear hpj
              go_wp2
              by_cases hend : M.length + 1 = a
              · have hpe : ((pj : Int) == (u' : Int)) = true := by rw [HLAST.out.1 hend]; exact beq_self_eq_true _
                have HEND := Go.Lib.hid hend
                rw [hend]
                clear hend
                refine region_ext mixed (by kernel_rfl) ?_
                repeat (go_big_quiet_step (fail))
                refine wpQuiet_nil ?_
                intro w4 hb4
                have hb34 := hb3.trans (hb4.mono hb3.size)
                have HO4 : w4.ownsRow wz.heap.size 3 1 (.slice A2 a c2) a (ints (backL L F u' a)) := by
                  have h1 := own_below' HO3.out hb4
                  rw [← HEND.out, HBS.out]
                  first | exact h1 | (rw [List.length_append] at h1; exact h1)
                have hbz4 : Below w.heap.size w w4 := HBZ.out.trans (hb34.mono hswz)
                obtain ⟨gb, rfl, hgb1, hgb2, hcb⟩ := cell_row HO4 (backL_len _ _ _ _) (i := 0) (by omega)
                have HCB : Hid (∀ x, x < a → w4.cell? ⟨gb, x, none⟩ = some (.int .i64 (mdB L F u (x + b)))) := Go.Lib.hid fun x hx => by rw [hcb x hx, backL_at hx, HMA.out]
                have y0 := HCB.out 0 (by omega)
                have hout1 : outL L F u a b 1 = [((mdB L F u (0 + b) : Nat) : Int)] := by
                  rw [show (1 : Nat) = 0 + 1 from rfl, outL_succ, Nat.sub_zero, HPB.out, Nat.zero_add]
                  rfl
                have HO1 := Go.Lib.hid hout1
                have hsw4 := hbz4.size
                have HBZ4 := Go.Lib.hid hbz4
                obtain ⟨y, hy⟩ : ∃ y, mdB L F u (0 + b) = y := ⟨_, rfl⟩
                rw [hy] at y0 HO1
                clear a0 a1 a2 xm k0 k1 lg0 lg1 lg2 lg3 HO3 HC1 HXM HLAST HIT HBS hb3 hb4 hb34 hpe HO4 hbz4 hcb hout1 hy hsr HC0 HQ1 hvn hjl2
                go_wp2
                have HAL := Go.Lib.hid ((Below.refl w4.heap.size w4).alloc (Nat.le_refl _) (Obj.cells #[.int .i64 y] 3))
                have HOA := Go.Lib.hid (own_one (Nat.le_refl _) (alloc_at w4 (Obj.cells #[.int .i64 y] 3)))
                go_loopw [14, 15] (fun o_ i_ wr => ∃ (x t : Nat) (A' : Option Addr) (c' : Nat), t + x = a ∧ 1 ≤ t ∧ i_ = .int .i64 x ∧ o_ = .slice A' t c' ∧ Hid (wr.ownsRow w4.heap.size 3 1 (.slice A' t c') t (ints (outL L F u a b t))) ∧ Below w4.heap.size w4 wr) (fun _ i_ _ => (intOf i_).toNat)
                case atStart =>
                  refine ⟨a - 1, 1, _, _, by omega, Nat.le_refl _, by first | rfl | (rw [show ((a - 1 : Nat) : Int) = (a : Int) - 1 by omega]), rfl, Go.Lib.hid ?_, HAL.out⟩
                  rw [HO1.out]
                  exact HOA.out
                case round =>
                  clear HAL HOA
                  obtain ⟨x, t', A', c', htx, ht1, rfl, rfl, HOW, hbr⟩ := hrel
                  have hsr := hbr.size
                  by_cases hx0 : 0 < x
                  · have hli : (0 : Int) < (x : Int) := by omega
                    have x1 := cell_on hbr (HCB.out x (by omega))
                    have hos := outL_succ L F u a b t'
                    rw [show b + a - t' = x + b by omega] at hos
                    have HOS := Go.Lib.hid hos
                    have HTX := Go.Lib.hid htx
                    have hxa : x < a := by omega
                    have hlm := outL_len L F u a b t'
                    clear hos htx
                    generalize mdB L F u (x + b) = y at *
                    generalize outL L F u a b t' = M at *
                    subst hlm
                    go_wp2_with (first | (at_builtin; refine append_int rfl (.tmp 106) (.tmp 111) rfl w4.heap.size _ M (y : Int) wr.heap.size rfl rfl (HOW.out.alloc _) (by simp [go_sem]) ?_ ?_ ?_))
                    · have := HTX.out; omega
                    · (try simp); omega
                    intro v2 w5 hown5 hg5 _
                    obtain ⟨A2, c2, rfl⟩ := own_shape hown5
                    have hb5 : Below w4.heap.size w4 w5 := (hbr.alloc hsr _).grown hg5 (by simp; omega) (own_ge HOW.out)
                    have HO5 := Go.Lib.hid hown5
                    clear hg5 HOW hown5 x1
                    go_wp2
                    go_roundw
                    case rel => exact ⟨x - 1, M.length + 1, A2, c2, by have := HTX.out; omega, by omega, by first | rfl | (rw [show ((x - 1 : Nat) : Int) = (x : Int) - 1 by omega]), by first | rfl | (rw [List.length_append]; rfl), Go.Lib.hid (by rw [HOS.out]; first | exact HO5.out | (have := HO5.out; rw [List.length_append] at this; exact this)), hb5⟩
                    case measure => simp [intOf]; omega
                  · have hx0' : ¬ ((0 : Int) < (x : Int)) := by omega
                    have hte : t' = a := by omega
                    subst hte
                    go_wp2
                    go_ret2
                    rw [HOUT.out]
                    exact IntsE.of (outL_len _ _ _ _ _ _) HOW.out hsw4 (HBZ4.out.trans (hbr.mono hsw4))
              · have hpu := HLAST.out.2 (by omega)
                have hpe : ((pj : Int) == (u' : Int)) = false := by simp; omega
                refine region_ext mixed (by kernel_rfl) ?_
                repeat (go_big_quiet_step (fail))
                refine wpQuiet_nil ?_
                intro w4 hb4
                have hb34 := hb3.trans (hb4.mono hb3.size)
                have HO4 := Go.Lib.hid (own_below' HO3.out hb4)
                clear a0 a1 a2 xm k0 k1 lg0 lg1 lg2 lg3 HO3
                go_wp2_with fail
                refine (HC1.out _ (HL.out.on hb34)).mono ?_
                rintro e w5 ⟨rfl, hb5⟩
                have HO5 := Go.Lib.hid (own_below' HO4.out hb5)
                go_wp2
                go_roundw
                case rel => exact ⟨M.length + 1, A2, c2, by omega, by rw [HIT.out], by first | rfl | (rw [List.length_append]; rfl), Go.Lib.hid (by rw [HBS.out]; first | exact HO5.out | (have := HO5.out; rw [List.length_append] at this; exact this)), hb34.trans (hb5.mono hb34.size)⟩
                case measure => simp [lenV]; omega
end Go.Proofs.Ythannibclhidcaa
