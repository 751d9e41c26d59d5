/- Layer 8: asked at literal rows; Parent. -/
import Derived.Test.YtnkojoajcdhngaaDoorTrAd
import Derived.Test.YtnkojoajcdhngaaDoorTrPp
import Derived.Shelf.Slices.Reverse
import Derived.Lib.OwnBridge
import Derived.Shelf.Lay
import Derived.Ground.NamesProg
namespace Go.Proofs.YtnkojoajcdhngaaDoor
set_option linter.unusedVariables false
set_option linter.unusedSimpArgs false
set_option maxRecDepth 100000
open Go.RowKit Go.Shelf Go.Lib
attribute [local go_sem] Oper.semAt_some
set_option maxRecDepth 100000
set_option maxHeartbeats 16000000

def upL (L : List Nd) : List Int := match parE L with | some (U, _) => U | none => []
theorem asked_row {B : Nat} (L : List Nd) (hok : ∀ n ∈ L, n.ok) (A : Option Addr) (c : Nat) (K : List Int) (hK : K.length ≤ 1000000) (w W : World) (hW : w.alloc (.cells (ints K).toArray 3) = W) (hT : Tabs w) (hA : NdsAt B w A L) (hB : B ≤ w.heap.size) (hl : L.length ≤ 9000000000000000) :
    Calls Tryd.prog 52 #[.agg #[.slice A L.length c], .slice (some ⟨w.heap.size, 0, none⟩) K.length K.length] W fun e w' => e = .returned (.int .i64 (askC L K)) ∧ Below w.heap.size w w' := by
  subst hW
  have hb := (Below.refl w.heap.size w).alloc (Nat.le_refl _) (.cells (ints K).toArray 3)
  exact (asked_any L hok A c _ (tabs_on hT hb) (hA.below (hb.mono hB)) (by have := hb.size; omega) K hK (some ⟨w.heap.size, 0, none⟩) K.length (at_new w K _ rfl) hl).mono fun e w' ⟨h1, h2⟩ => ⟨h1, hb.trans (h2.mono hb.size)⟩
theorem asked1 {B : Nat} (L : List Nd) (hok : ∀ n ∈ L, n.ok) (A : Option Addr) (c : Nat) (k : Int) (w : World) (hT : Tabs w) (hA : NdsAt B w A L) (hB : B ≤ w.heap.size) (hl : L.length ≤ 9000000000000000) :
    Calls Tryd.prog 52 #[.agg #[.slice A L.length c], .slice (some ⟨w.heap.size, 0, none⟩) 1 1] (w.alloc (.cells #[.int .i64 k] 3)) fun e w' => e = .returned (.int .i64 (askC L [k])) ∧ Below w.heap.size w w' :=
  asked_row L hok A c [k] (by show 1 ≤ 1000000; decide) w _ rfl hT hA hB hl
theorem asked2 {B : Nat} (L : List Nd) (hok : ∀ n ∈ L, n.ok) (A : Option Addr) (c : Nat) (k j : Int) (w : World) (hT : Tabs w) (hA : NdsAt B w A L) (hB : B ≤ w.heap.size) (hl : L.length ≤ 9000000000000000) :
    Calls Tryd.prog 52 #[.agg #[.slice A L.length c], .slice (some ⟨w.heap.size, 0, none⟩) 2 2] (w.alloc (.cells #[.int .i64 k, .int .i64 j] 3)) fun e w' => e = .returned (.int .i64 (askC L [k, j])) ∧ Below w.heap.size w w' :=
  asked_row L hok A c [k, j] (by show 2 ≤ 1000000; decide) w _ rfl hT hA hB hl
theorem askC_zero {L : List Nd} {K : List Int} (h : askC L K = 0) : chkB L = true ∧ K.any (outB L.length) = false := by
  unfold askC at h
  split at h
  · rename_i hc
    split at h
    · cases h
    · rename_i h2
      exact ⟨hc, by simpa using h2⟩
  · cases h
theorem outB_false {n : Nat} {k : Int} (h : outB n k = false) : 0 ≤ k ∧ k < n := by
  unfold outB at h
  rw [Bool.or_eq_false_iff, decide_eq_false_iff_not, decide_eq_false_iff_not] at h
  omega
def ParentP (L : List Nd) (node : Int) : Int × Int := if askC L [node] = 0 then ((upL L).getD node.toNat 0, 0) else (0, askC L [node])
theorem Parent_any {B : Nat} (L : List Nd) (hok : ∀ n ∈ L, n.ok) (A : Option Addr) (c : Nat) (node : Int) (w : World) (hT : Tabs w) (hA : NdsAt B w A L) (hB : B ≤ w.heap.size) (hl : L.length ≤ 9000000000000) :
    Calls Tryd.prog 30 #[.agg #[.slice A L.length c], .int .i64 node] w fun e w' => e = .returned (.tuple #[.int .i64 (ParentP L node).1, .int .i64 (ParentP L node).2]) ∧ Below w.heap.size w w' := by
  obtain ⟨W, hW⟩ : ∃ W, w.alloc (.cells #[.slice A L.length c] 25) = W := ⟨_, rfl⟩
  have hBW : Below w.heap.size w W := by
    rw [← hW]
    exact (Below.refl _ _).alloc (Nat.le_refl _) _
  have hc0 : W.heap[w.heap.size]? = some (.cells #[.slice A L.length c] 25 (0, 0)) := by
    rw [← hW]
    exact World.alloc_heap_new _ _
  have hA1 := hA.below (hBW.mono hB)
  have C := asked1 L hok A c node W (tabs_on hT hBW) hA1 (by have := hBW.size; omega) (by omega)
  have P := fun (w2 : World) (hb : Below W.heap.size W w2) => parents_any L hok A c w2 (tabs_on hT (hBW.trans (hb.mono hBW.size))) (hA1.below (hb.mono (by have := hBW.size; omega))) (by have := hb.size; have := hBW.size; omega)
  have HP := hid P
  have HW := hid hW
  have HBW := hid hBW
  have HC0 := hid hc0
  have k0 : W.cell? ⟨w.heap.size, 0, none⟩ = some (.slice A L.length c) := by rw [blk_cell hc0]; rfl
  unfold ParentP
  have h0 := @askC_zero L [node]
  unfold upL
  obtain ⟨E, hE⟩ : ∃ E, askC L [node] = E := ⟨_, rfl⟩
  rw [hE] at h0 C ⊢
  by_cases he : E = 0
  · subst he
    obtain ⟨hc, ho⟩ := h0 rfl
    unfold chkB at hc
    obtain ⟨⟨U, D⟩, hUD⟩ : ∃ x, parE L = some x := Option.isSome_iff_exists.1 hc
    rw [if_pos rfl, hUD]
    rw [hUD] at HP
    simp only [List.any_cons, List.any_nil, Bool.or_false] at ho
    obtain ⟨o1, o2⟩ := outB_false ho
    obtain ⟨n, hn⟩ : ∃ n, L.length = n := ⟨_, rfl⟩
    rw [hn] at C k0 HW HP HC0 o2 ⊢
    clear hc ho h0 hE hUD hn hA hA1 hok hT hW hBW hc0 P hl
    go_enter Tryd.func30, Tryd.ntmps30
    go_upto_region 1 with fail
    rw [HW.out]
    go_wp2_with fail
    with_reducible refine C.mono ?_
    rintro e w2 ⟨rfl, hb2⟩
    have HP2 := HP.out w2 hb2
    have k2 : w2.cell? ⟨w.heap.size, 0, none⟩ = some (.slice A n c) := by rw [hb2.cell (p := ⟨w.heap.size, 0, none⟩) (lt_of_block HC0.out)]; exact k0
    clear C k0 HP
    go_wp2_with fail
    with_reducible refine HP2.mono ?_
    rintro e w3 ⟨hb3, gu, gd, _, _, _, rfl, ru, _, lu, _⟩
    have hB3 := hid (HBW.out.trans ((hb2.trans (hb3.mono hb2.size)).mono HBW.out.size))
    have hk : node.toNat < U.length := by simp only at lu; omega
    have c3 := ru.cell hk
    simp only at c3
    have hix : (node.toNat : Int) = node := by omega
    have hxm : node.toNat < n := by omega
    clear hb2 hb3 HP2 k2 ru
    go_wp2
    refine bodyPost_ret (v := .tuple #[.int .i64 (U.getD node.toNat 0), .int .i64 0]) (by simp [results, Tryd.results30, go_sem, *]) rfl ⟨rfl, hB3.out⟩
  · rw [if_neg he]
    obtain ⟨n, hn⟩ : ∃ n, L.length = n := ⟨_, rfl⟩
    rw [hn] at C k0 HW HP HC0 ⊢
    have he0 : (E == 0) = false := beq_eq_false_iff_ne.2 he
    clear h0 hE hn hA hA1 hok hT hW hBW hc0 P HP hl
    go_enter Tryd.func30, Tryd.ntmps30
    go_upto_region 1 with fail
    rw [HW.out]
    go_wp2_with fail
    with_reducible refine C.mono ?_
    rintro e w2 ⟨rfl, hb2⟩
    have hB2 := hid (HBW.out.trans (hb2.mono HBW.out.size))
    clear C k0 hb2
    go_wp2
    refine bodyPost_ret (v := .tuple #[.int .i64 0, .int .i64 E]) (by simp [results, Tryd.results30, go_sem, *]) rfl ⟨rfl, hB2.out⟩
end Go.Proofs.YtnkojoajcdhngaaDoor

/- Layer 8: Reverse (the shelf's). -/
namespace Go.Proofs.YtnkojoajcdhngaaDoor
set_option linter.unusedVariables false
set_option linter.unusedSimpArgs false
set_option maxRecDepth 100000
open Go.RowKit Go.Shelf Go.Lib
def Tryd.laysRev_ren : Go.Shelf.Ren := ⟨fun | 112 => 76 | n => n, fun | 28 => 37 | 3 => 3 | 4 => 4 | 0 => 0 | n => n, fun | n => n⟩
theorem Tryd.laysRev : Go.Proofs.Lays.n112 Tryd.prog Tryd.laysRev_ren := {
  mixed := by kernel_rfl
  f112 := Tryd.func76.trans (congrArg some (by kernel_rfl))
  t0 := Tryd.underlying0
  a0 := Tryd.isAgg0
  z0 := Tryd.sizeOf0
  v0 := Tryd.zeroValue0
  t3 := Tryd.underlying3
  a3 := Tryd.isAgg3
  z3 := Tryd.sizeOf3
  v3 := Tryd.zeroValue3
  t4 := Tryd.underlying4
  a4 := Tryd.isAgg4
  z4 := Tryd.sizeOf4
  v4 := Tryd.zeroValue4
  t28 := Tryd.underlying37
  a28 := Tryd.isAgg37
  z28 := Tryd.sizeOf37
  v28 := Tryd.zeroValue37 }
theorem Reverse_any (v : Value) (n base : Nat) (xs : List Int) (w : World) (h : w.ownsRow base 3 1 v n (ints xs)) (hn : 0 < n) (hn2 : n ≤ 1000000) :
    Calls Tryd.prog 76 #[v] w fun e w' => e = .returned (.tuple #[]) ∧ w'.ownsRow base 3 1 v n (ints xs.reverse) ∧ (∀ B w0, Below B w0 w → B ≤ base → Below B w0 w') := by
  have hv : v ≠ .slice none 0 0 := by
    rintro rfl
    rcases h.2 with ⟨_, h2⟩ | ⟨g, cap, cur, h2, _⟩
    · omega
    · cases h2
  have h' : w.ownsRow base 3 1 v n (xs.map (Value.int .i64)) := h
  obtain ⟨g, cap, rfl, hbg, hgl, hnc, hcm, hl, hH⟩ := holds_of_ownsRow h' hv
  subst hl
  have C : Calls Tryd.prog 76 #[.slice (some ⟨g, 0, none⟩) xs.length cap] w _ := Any.slices_Reverse_int Tryd.laysRev g 0 cap xs w hH (by omega)
  refine C.mono ?_
  rintro e w' ⟨rfl, q, rfl⟩
  refine ⟨rfl, ?_, fun B w0 hb hB => below_putRow hb (by omega)⟩
  have := ownsRow_putRow (q := q) (ys := xs.reverse) h' (by simp) (Nat.le_refl _)
  rw [List.take_of_length_le (by simp)] at this
  exact this
end Go.Proofs.YtnkojoajcdhngaaDoor

/- Layer 8: Path. -/
namespace Go.Proofs.YtnkojoajcdhngaaDoor
set_option linter.unusedVariables false
set_option linter.unusedSimpArgs false
set_option maxRecDepth 100000
open Go.RowKit Go.Shelf Go.Lib
attribute [local go_sem] Oper.semAt_some
set_option maxRecDepth 100000
set_option maxHeartbeats 16000000

/-- From a node upward. -/
def upF (U : List Int) : Nat → Int → List Int
  | 0, _ => []
  | f + 1, k => if k < 0 then [] else k :: upF U f (U.getD k.toNat 0)
theorem upF_neg {U : List Int} {f : Nat} {k : Int} (h : k < 0) : upF U f k = [] := by
  cases f with
  | zero => rfl
  | succ f => rw [upF, if_pos h]
theorem upF_len {U : List Int} (hU : ∀ j, j < U.length → U.getD j 0 < j) : ∀ (f : Nat) (k : Int), k < U.length → (upF U f k).length ≤ (k + 1).toNat
  | 0, _, _ => by simp [upF]
  | f + 1, k, hk => by
    rw [upF]
    split
    · simp
    · rename_i h
      have h1 := hU k.toNat (by omega)
      have := upF_len hU f (U.getD k.toNat 0) (by omega)
      rw [List.length_cons]
      omega
theorem TreeOk.falls {L : List Nd} {U D : List Int} (h : TreeOk L U D) (j : Nat) (hj : j < U.length) : U.getD j 0 < j ∧ -1 ≤ U.getD j 0 := by
  rw [h.lu] at hj
  by_cases h0 : j = 0
  · subst h0
    rw [h.u0]
    exact ⟨by decide, by decide⟩
  · obtain ⟨p, hp, hpj, _, e⟩ := h.par j (by omega) hj
    rw [e]
    omega
/-- The path: parents' row, and what is told. -/
def pathL (L : List Nd) (node : Int) : List Int := if askC L [node] = 0 then (upF (upL L) (L.length + 1) node).reverse else []
def PathP (w : World) (R : List Int) (z : Int) (e : Ending) (w' : World) : Prop := ∃ v, e = .returned (.tuple #[v, .int .i64 z]) ∧ w'.ownsRow w.heap.size 3 1 v R.length (ints R) ∧ Below w.heap.size w w'
theorem Path_any {B : Nat} (L : List Nd) (hok : ∀ n ∈ L, n.ok) (A : Option Addr) (c : Nat) (node : Int) (w : World) (hT : Tabs w) (hA : NdsAt B w A L) (hB : B ≤ w.heap.size) (hl : L.length ≤ 9000000000000) :
    Calls Tryd.prog 29 #[.agg #[.slice A L.length c], .int .i64 node] w (PathP w (pathL L node) (askC L [node])) := by
  obtain ⟨W, hW⟩ : ∃ W, w.alloc (.cells #[.slice A L.length c] 25) = W := ⟨_, rfl⟩
  have hBW : Below w.heap.size w W := by
    rw [← hW]
    exact (Below.refl _ _).alloc (Nat.le_refl _) _
  have hc0 : W.heap[w.heap.size]? = some (.cells #[.slice A L.length c] 25 (0, 0)) := by
    rw [← hW]
    exact World.alloc_heap_new _ _
  have hA1 := hA.below (hBW.mono hB)
  have C := asked1 L hok A c node W (tabs_on hT hBW) hA1 (by have := hBW.size; omega) (by omega)
  have P := fun (w2 : World) (hb : Below W.heap.size W w2) => parents_any L hok A c w2 (tabs_on hT (hBW.trans (hb.mono hBW.size))) (hA1.below (hb.mono (by have := hBW.size; omega))) (by have := hb.size; have := hBW.size; omega)
  have HP := hid P
  have HW := hid hW
  have HBW := hid hBW
  have HC0 := hid hc0
  have k0 : W.cell? ⟨w.heap.size, 0, none⟩ = some (.slice A L.length c) := by rw [blk_cell hc0]; rfl
  unfold pathL
  have h0 := @askC_zero L [node]
  unfold upL
  obtain ⟨E, hE⟩ : ∃ E, askC L [node] = E := ⟨_, rfl⟩
  rw [hE] at h0 C ⊢
  by_cases he : E = 0
  · subst he
    obtain ⟨hc, ho⟩ := h0 rfl
    unfold chkB at hc
    obtain ⟨⟨U, D⟩, hUD⟩ : ∃ x, parE L = some x := Option.isSome_iff_exists.1 hc
    have hTO := parE_ok hUD
    rw [if_pos rfl, hUD]
    rw [hUD] at HP
    simp only [List.any_cons, List.any_nil, Bool.or_false] at ho
    obtain ⟨o1, o2⟩ := outB_false ho
    have hFA := hTO.falls
    have hlU := hTO.lu
    have hn2 := hTO.n2
    obtain ⟨n, hn⟩ : ∃ n, L.length = n := ⟨_, rfl⟩
    rw [hn] at C k0 HW HP HC0 o2 hlU hn2 ⊢
    obtain ⟨R, hR⟩ : ∃ R, upF U (n + 1) node = R := ⟨_, rfl⟩
    have hRl : R.length ≤ n := by
      rw [← hR]
      have := upF_len (fun j hj => (hFA j hj).1) (n + 1) node (by omega)
      omega
    have hR0 : 0 < R.length := by
      rw [← hR, upF, if_neg (by omega)]
      simp
    show Calls _ _ _ w (PathP w (upF U (n + 1) node).reverse 0)
    rw [hR]
    have HFA := hid hFA
    have HR := hid hR
    clear hc ho h0 hE hUD hn hA hA1 hok hT hW hBW hc0 P hl hTO hFA hR
    go_enter Tryd.func29, Tryd.ntmps29
    go_upto_region 1 with fail
    rw [HW.out]
    go_wp2_with fail
    with_reducible refine C.mono ?_
    rintro e w2 ⟨rfl, hb2⟩
    have HP2 := HP.out w2 hb2
    have k2 : w2.cell? ⟨w.heap.size, 0, none⟩ = some (.slice A n c) := by rw [hb2.cell (p := ⟨w.heap.size, 0, none⟩) (lt_of_block HC0.out)]; exact k0
    clear C k0 HP
    go_wp2_with fail
    with_reducible refine HP2.mono ?_
    rintro e w3 ⟨hb3, gu, gd, _, _, _, rfl, ru, _, lu, _⟩
    have hB3 := hid (HBW.out.trans ((hb2.trans (hb3.mono hb2.size)).mono HBW.out.size))
    simp only at lu ru
    have hgl := ru.lt
    have HRU := hid ru
    clear hb2 hb3 HP2 k2 ru
    go_wp2
    go_loopg [1, 10] (n + 1) (fun gh v1 v10 wr => ∃ (k : Int) (A1 : Option Addr) (c1 : Nat) (acc : List Int) (f : Nat), v1 = .int .i64 k ∧ v10 = .slice A1 acc.length c1 ∧ wr.ownsRow w3.heap.size 3 1 (.slice A1 acc.length c1) acc.length (ints acc) ∧ Below w3.heap.size w3 wr ∧ k < n ∧ (k + 1).toNat ≤ f ∧ f ≤ gh ∧ Hid (acc ++ upF U f k = R))
    case atStart => exact ⟨node, none, 0, [], n + 1, rfl, rfl, World.ownsRow_nil _ _ _ _, Below.refl _ _, o2, by omega, Nat.le_refl _, HR⟩
    case round =>
      obtain ⟨k, A1, c1, acc, f, rfl, rfl, hown, hbr, hkn, hkf, hfg, HQ⟩ := hrel
      have hsr := hbr.size
      by_cases hk : k < 0
      · have hq : ¬ (k ≥ 0) := by omega
        have hq2 : ¬ (0 ≤ k) := by omega
        have hac : acc = R := by
          have := HQ.out
          rwa [upF_neg hk, List.append_nil] at this
        subst hac
        have CR := Reverse_any _ _ _ _ wr hown hR0 (by omega)
        clear hown HQ
        have HBR := hid hbr
        clear hbr
        go_wp2_with fail
        with_reducible refine CR.mono ?_
        rintro e w5 ⟨rfl, hown5, hb5⟩
        have hB5 := hid (hB3.out.trans ((hb5 _ _ HBR.out (Nat.le_refl _)).mono hB3.out.size))
        have HO5 := hid (own_mono hown5 hB3.out.size)
        clear CR hown5 hb5
        go_wp2
        refine bodyPost_ret (v := .tuple #[.slice A1 acc.length c1, .int .i64 0]) (by simp [results, Tryd.results29, go_sem, *]) rfl ⟨_, rfl, by rw [List.length_reverse]; exact HO5.out, hB5.out⟩
      · obtain ⟨f', rfl⟩ : ∃ f', f = f' + 1 := ⟨f - 1, by omega⟩
        have hq2 : 0 ≤ k := by omega
        have hq1 : k ≥ 0 := hq2
        have hkU : k.toNat < U.length := by omega
        have hQ := HQ.out
        rw [upF, if_neg hk] at hQ
        have c0 : wr.cell? ⟨gu, k.toNat, none⟩ = some (.int .i64 (U.getD k.toNat 0)) := (HRU.out.below hbr hgl).cell hkU
        have hlen : acc.length ≤ n := by
          rw [← hQ, List.length_append] at hRl
          omega
        obtain ⟨z, hz⟩ : ∃ z, U.getD k.toNat 0 = z := ⟨_, rfl⟩
        have hfa := HFA.out k.toNat hkU
        rw [hz] at hQ c0 hfa
        have HQ2 := hid (show (acc ++ [k]) ++ upF U f' z = R by rw [List.append_assoc]; exact hQ)
        have hix : (k.toNat : Int) = k := by omega
        have hxn : k.toNat < n := by omega
        have HBR := hid hbr
        clear hQ HQ hbr hz
        go_wp2_with (first | (at_builtin; refine append_int rfl (.tmp 30) (.tmp 32) rfl w3.heap.size _ acc k wr.heap.size rfl rfl (hown.alloc _) (by simp [go_sem]) ?_ ?_ ?_))
        · omega
        · first | omega | (simp; omega)
        intro v2 w5 hown5 hg5 _
        obtain ⟨A5, c5, rfl⟩ := own_shape hown5
        have hb5 : Below w3.heap.size w3 w5 := (HBR.out.alloc hsr _).grown hg5 (by simp; omega) (own_ge hown)
        have c5' : w5.cell? ⟨gu, k.toNat, none⟩ = some (.int .i64 z) := by
          rw [hb5.cell (p := ⟨gu, k.toNat, none⟩) hgl, ← HBR.out.cell (p := ⟨gu, k.toNat, none⟩) hgl]
          exact c0
        have HO5 := hid hown5
        have HB5 := hid hb5
        clear hown hown5 hg5 c0 hb5
        go_wp2
        go_roundg f'
        case measure => omega
        case rel => exact ⟨z, A5, c5, acc ++ [k], f', rfl, by rw [List.length_append]; rfl, by rw [List.length_append]; first | exact HO5.out | (have := HO5.out; rwa [List.length_append] at this), HB5.out, by omega, by omega, by omega, HQ2⟩
  · rw [if_neg he]
    obtain ⟨n, hn⟩ : ∃ n, L.length = n := ⟨_, rfl⟩
    rw [hn] at C k0 HW HP HC0 ⊢
    have he0 : (E == 0) = false := beq_eq_false_iff_ne.2 he
    clear h0 hE hn hA hA1 hok hT hW hBW hc0 P HP hl
    go_enter Tryd.func29, Tryd.ntmps29
    go_upto_region 1 with fail
    rw [HW.out]
    go_wp2_with fail
    with_reducible refine C.mono ?_
    rintro e w2 ⟨rfl, hb2⟩
    have hB2 := hid (HBW.out.trans (hb2.mono HBW.out.size))
    clear C k0 hb2
    go_wp2
    refine bodyPost_ret (v := .tuple #[.slice none 0 0, .int .i64 E]) (by simp [results, Tryd.results29, go_sem, *]) rfl ⟨_, rfl, World.ownsRow_nil _ _ _ _, hB2.out⟩
end Go.Proofs.YtnkojoajcdhngaaDoor

/- Layer 8: Clone at wrappers; specs in memory of their own. -/
namespace Go.Proofs.YtnkojoajcdhngaaDoor
set_option linter.unusedVariables false
set_option linter.unusedSimpArgs false
set_option maxRecDepth 100000
open Go.RowKit Go.Shelf Go.Lib
set_option maxRecDepth 100000
set_option maxHeartbeats 8000000

theorem info_wrap : (Tryd.prog.info? 42).map (fun i => (i.zero, i.size, i.bytes)) = some (some (.agg #[.int .u8 0, .int .u16 0, .int .i64 0, .string { data := #[] }]), 4, 32) := by kernel_rfl
theorem wrs_one : ∀ (l : List Wr), ∀ v ∈ wrs l, v.oneCell' = true
  | [], v, h => by cases h
  | c :: l, v, h => by
    simp only [wrs, List.mem_cons] at h
    rcases h with rfl | rfl | rfl | rfl | h
    · rfl
    · rfl
    · rfl
    · rfl
    · exact wrs_one l v h
theorem wrs_append (l m : List Wr) : wrs (l ++ m) = wrs l ++ wrs m := by
  induction l with
  | nil => rfl
  | cons c l ih => simp [wrs, ih]
def CloWP (w : World) (K : List Wr) (e : Ending) (w' : World) : Prop := ∃ v, e = .returned v ∧ w'.ownsRow w.heap.size 42 4 v K.length (wrs K) ∧ Below w.heap.size w w'
theorem own_emptyW {w : World} {base g : Nat} (hb : base ≤ g) (h : w.heap[g]? = some (.cells #[] 42 (0, 0))) : w.ownsRow base 42 4 (.slice (some ⟨g, 0, none⟩) 0 0) 0 [] :=
  ⟨rfl, .inr ⟨g, 0, #[], rfl, hb, h, Nat.le_refl _, by decide, rfl, rfl⟩⟩
theorem CloneW_any {B : Nat} (K : List Wr) (A : Option Addr) (c : Nat) (w : World) (hA : At B w A (wrs K)) (hs : SlOk A K.length c) (hB : B ≤ w.heap.size) (hl : K.length ≤ 4000000000000) :
    Calls Tryd.prog 92 #[.slice A K.length c] w (CloWP w K) := by
  cases A with
  | none =>
    obtain ⟨h1, h2⟩ := hs rfl
    have hk : K = [] := List.eq_nil_of_length_eq_zero h1
    subst hk
    subst h2
    have HF := hid (show CloWP w [] (.returned (.slice none 0 0)) w from ⟨_, rfl, World.ownsRow_nil _ _ _ _, Below.refl _ _⟩)
    clear hA hs
    have he : ∀ w : World, (binOp .eql 36 (.slice none 0 0) (.slice none 0 0)).run Tryd.prog w = .ok (.bool true) w := fun _ => rfl
    simp only [List.length_nil]
    go_enter Tryd.func92, Tryd.ntmps92
    go_wp2
    refine bodyPost_ret (v := .slice none 0 0) (by simp [results, Tryd.results92, go_sem, *]) rfl HF.out
  | some a =>
    obtain ⟨i0, hi, hz0, hz1, hz2⟩ := info_parts info_wrap
    have hb1 := (Below.refl w.heap.size w).alloc (Nat.le_refl _) (.cells #[] 42)
    have hA1 := hA.below (hb1.mono hB)
    have ho : (w.alloc (.cells #[] 42)).ownsRow w.heap.size 42 4 (.slice (some ⟨w.heap.size, 0, none⟩) 0 0) 0 [] := own_emptyW (Nat.le_refl _) (World.alloc_heap_new _ _)
    have HA1 := hid hA1
    have HO := hid ho
    have HB1 := hid hb1
    clear hA hs hA1 ho hb1
    have he : ∀ w : World, (binOp .eql 36 (.slice (some a) K.length c) (.slice none 0 0)).run Tryd.prog w = .ok (.bool false) w := fun _ => rfl
    go_enter Tryd.func92, Tryd.ntmps92
    go_wp2_with (first | (at_builtin; refine append_many Tryd.underlying36 hi hz0 hz1 hz2 rfl (by decide) rfl (.tmp 5) (.tmp 6) rfl w.heap.size (.slice (some ⟨w.heap.size, 0, none⟩) 0 0) 0 [] (some a) K.length c B (wrs K) rfl rfl (fun h => by cases h) HO.out HA1.out (wrs_len K) (wrs_one K) ?_ ?_ (by simp) ?_))
    · unfold maxLen; omega
    · omega
    intro v2 w2 hown2 hg2
    have hb2 := HB1.out.grown hg2 (by have := HB1.out.size; omega) (own_ge HO.out)
    have hown3 : w2.ownsRow w.heap.size 42 4 v2 K.length (wrs K) := by simpa using hown2
    have HF := hid (show CloWP w K (.returned v2) w2 from ⟨v2, rfl, hown3, hb2⟩)
    clear hown2 hown3 hg2
    go_wp2
    refine bodyPost_ret (v := v2) (by simp [results, Tryd.results92, go_sem, *]) rfl HF.out

/-! ### A spec in memory of its own -/
abbrev Tri := Nd × Value × Value
def cellsT (T : List Tri) : List Value := T.flatMap fun t => ndC t.1 t.2.1 t.2.2
theorem cellsT_len : ∀ T : List Tri, (cellsT T).length = T.length * 19
  | [] => rfl
  | t :: T => by
    show (ndC t.1 t.2.1 t.2.2 ++ cellsT T).length = _
    rw [List.length_append, cellsT_len T, ndC_len, List.length_cons]
    omega
theorem cellsT_append (S T : List Tri) : cellsT (S ++ T) = cellsT S ++ cellsT T := by simp [cellsT]
theorem cellsT_at : ∀ (T : List Tri) (i j : Nat) (h : i < T.length) (v : Value), (ndC T[i].1 T[i].2.1 T[i].2.2)[j]? = some v → (cellsT T)[i * 19 + j]? = some v
  | t :: T, 0, j, _, v, hv => by
    show (ndC t.1 t.2.1 t.2.2 ++ cellsT T)[0 * 19 + j]? = _
    have hj := (List.getElem?_eq_some_iff.1 hv).1
    rw [Nat.zero_mul, Nat.zero_add, List.getElem?_append_left (by simpa using hj)]
    simpa using hv
  | t :: T, i + 1, j, h, v, hv => by
    show (ndC t.1 t.2.1 t.2.2 ++ cellsT T)[(i + 1) * 19 + j]? = _
    rw [List.getElem?_append_right (by rw [ndC_len]; omega), ndC_len, show (i + 1) * 19 + j - 19 = i * 19 + j by omega]
    exact cellsT_at T i j (by simpa using h) v (by simpa using hv)
/-- A node's wrappers and kids lie in rows of one's own. -/
def TriO (base : Nat) (w : World) (t : Tri) : Prop := w.ownsRow base 42 4 t.2.1 t.1.wraps.length (wrs t.1.wraps) ∧ w.ownsRow base 3 1 t.2.2 t.1.kids.length (ints t.1.kids)
def SpecO (base : Nat) (w : World) (A : Option Addr) (c : Nat) (L : List Nd) : Prop := ∃ T : List Tri, T.map (·.1) = L ∧ w.ownsRow base 39 19 (.slice A L.length c) L.length (cellsT T) ∧ ∀ t ∈ T, TriO base w t
theorem TriO.below {base : Nat} {w w' : World} {t : Tri} (h : TriO base w t) (hb : Below w.heap.size w w') : TriO base w' t := ⟨own_below' h.1 hb, own_below' h.2 hb⟩
theorem TriO.mono {base base' : Nat} {w : World} {t : Tri} (h : TriO base w t) (hb : base' ≤ base) : TriO base' w t := ⟨own_mono h.1 hb, own_mono h.2 hb⟩
theorem SpecO.below {base : Nat} {w w' : World} {A : Option Addr} {c : Nat} {L : List Nd} (h : SpecO base w A c L) (hb : Below w.heap.size w w') : SpecO base w' A c L := by
  obtain ⟨T, h1, h2, h3⟩ := h
  exact ⟨T, h1, own_below' h2 hb, fun t ht => (h3 t ht).below hb⟩
theorem SpecO.mono {base base' : Nat} {w : World} {A : Option Addr} {c : Nat} {L : List Nd} (h : SpecO base w A c L) (hb : base' ≤ base) : SpecO base' w A c L := by
  obtain ⟨T, h1, h2, h3⟩ := h
  exact ⟨T, h1, own_mono h2 hb, fun t ht => (h3 t ht).mono hb⟩
theorem SpecO.nil {base : Nat} {w : World} : SpecO base w none 0 [] := ⟨[], rfl, World.ownsRow_nil _ _ _ _, fun t ht => by cases ht⟩
theorem own_sl {w : World} {base : Nat} {e : TypeId} {size n : Nat} {v : Value} {xs : List Value} (h : w.ownsRow base e size v n xs) : ∃ A c, v = .slice A n c ∧ (A = none → n = 0 ∧ c = 0) := by
  rcases h.2 with ⟨rfl, rfl⟩ | ⟨g, cap, cur, rfl, _⟩
  · exact ⟨none, 0, rfl, fun _ => ⟨rfl, rfl⟩⟩
  · exact ⟨_, cap, rfl, fun e => by cases e⟩
/-- .. is a spec that is read. -/
theorem SpecO.nds {base : Nat} {w : World} {A : Option Addr} {c : Nat} {L : List Nd} (h : SpecO base w A c L) : NdsAt w.heap.size w A L ∧ SlOk A L.length c := by
  obtain ⟨T, rfl, h2, h3⟩ := h
  have hx := h2
  rcases h2.2 with ⟨e, h0⟩ | ⟨g, cap, cur, e, hb, hh, hn, hm, hs, ht⟩
  · injection e with e1 e2 e3
    subst e1
    exact ⟨fun hl => absurd h0 (by omega), fun _ => ⟨h0, e3⟩⟩
  · injection e with e1 e2 e3
    subst e1
    refine ⟨fun hl => ⟨g, 0, rfl, lt_of_block hh, fun i hi => ?_⟩, fun e => by cases e⟩
    have hiT : i < T.length := by simpa using hi
    have hg : (T.map (·.1))[i] = T[i].1 := by simp
    obtain ⟨t1, t2⟩ := h3 T[i] (List.getElem_mem hiT)
    obtain ⟨Aw, cw, ew, ow⟩ := own_sl t1
    obtain ⟨Ak, ck, ek, ok⟩ := own_sl t2
    rw [ew] at t1
    rw [ek] at t2
    rw [hg]
    refine ⟨Aw, cw, Ak, ck, fun j v hj => ?_, At.of_own t1, At.of_own t2, ow, ok⟩
    have hc := cellsT_at T i j hiT v (by rw [ew, ek]; exact hj)
    rw [← ht] at hc
    have hlt := (List.getElem?_eq_some_iff.1 hc).1
    rw [List.getElem?_take] at hc
    split at hc
    · rw [blk_cell hh, Nat.zero_add]
      simpa using hc
    · cases hc
end Go.Proofs.YtnkojoajcdhngaaDoor
