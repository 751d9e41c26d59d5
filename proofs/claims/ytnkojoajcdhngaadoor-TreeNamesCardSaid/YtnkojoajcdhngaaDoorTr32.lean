/- Layer 8: Named. -/
import Derived.Test.YtnkojoajcdhngaaDoorTr24
import Derived.Test.YtnkojoajcdhngaaDoorTr16
import Derived.Test.YtnkojoajcdhngaaDoorTrPp
import Derived.Shelf.Strings.SplitShaped
namespace Go.Proofs.YtnkojoajcdhngaaDoor
set_option linter.unusedVariables false
set_option linter.unusedSimpArgs false
set_option maxRecDepth 100000
open Go.RowKit Go.Shelf Go.Lib
attribute [local go_sem] Oper.semAt_some
set_option maxRecDepth 100000
set_option maxHeartbeats 16000000
def Tryd.laysSplit_ren : Go.Shelf.Ren := ⟨fun | 146 => 77 | 221 => 98 | 268 => 110 | 138 => 111 | 143 => 112 | 195 => 117 | 197 => 118 | 218 => 119 | 219 => 120 | 260 => 122 | 217 => 123 | 225 => 124 | 224 => 125 | 267 => 126 | 266 => 127 | 314 => 128 | n => n, fun | 9 => 9 | 31 => 100 | 3 => 3 | 4 => 4 | 0 => 0 | 105 => 126 | 21 => 21 | 5 => 5 | 46 => 134 | 119 => 130 | 139 => 133 | 138 => 132 | 146 => 138 | 51 => 137 | n => n, fun | 1 => 2 | 3 => 0 | 4 => 1 | n => n⟩
theorem Tryd.laysSplit : Go.Proofs.LaysM.n146 Tryd.prog Tryd.laysSplit_ren := {
  mixed := by kernel_rfl
  f138 := Tryd.func111.trans (congrArg some (by kernel_rfl))
  f143 := Tryd.func112.trans (congrArg some (by kernel_rfl))
  f146 := Tryd.func77.trans (congrArg some (by kernel_rfl))
  f195 := Tryd.func117.trans (congrArg some (by kernel_rfl))
  f197 := Tryd.func118.trans (congrArg some (by kernel_rfl))
  f217 := Tryd.func123.trans (congrArg some (by kernel_rfl))
  f218 := Tryd.func119.trans (congrArg some (by kernel_rfl))
  f219 := Tryd.func120.trans (congrArg some (by kernel_rfl))
  f221 := Tryd.func98.trans (congrArg some (by kernel_rfl))
  f224 := Tryd.func125.trans (congrArg some (by kernel_rfl))
  f225 := Tryd.func124.trans (congrArg some (by kernel_rfl))
  f260 := Tryd.func122.trans (congrArg some (by kernel_rfl))
  f266 := Tryd.func127.trans (congrArg some (by kernel_rfl))
  f267 := Tryd.func126.trans (congrArg some (by kernel_rfl))
  f268 := Tryd.func110.trans (congrArg some (by kernel_rfl))
  f314 := Tryd.func128.trans (congrArg some (by kernel_rfl))
  t0 := Tryd.underlying0
  a0 := Tryd.isAgg0
  z0 := Tryd.sizeOf0
  v0 := Tryd.zeroValue0
  t3 := Tryd.underlying3
  a3 := Tryd.isAgg3
  z3 := Tryd.sizeOf3
  v3 := Tryd.zeroValue3
  t4 := Tryd.underlying4
  a4 := Tryd.isAgg4
  z4 := Tryd.sizeOf4
  v4 := Tryd.zeroValue4
  t5 := Tryd.underlying5
  a5 := Tryd.isAgg5
  z5 := Tryd.sizeOf5
  v5 := Tryd.zeroValue5
  t9 := Tryd.underlying9
  a9 := Tryd.isAgg9
  z9 := Tryd.sizeOf9
  v9 := Tryd.zeroValue9
  t21 := Tryd.underlying21
  a21 := Tryd.isAgg21
  z21 := Tryd.sizeOf21
  v21 := Tryd.zeroValue21
  t31 := Tryd.underlying100
  a31 := Tryd.isAgg100
  z31 := Tryd.sizeOf100
  v31 := Tryd.zeroValue100
  t46 := Tryd.underlying134
  a46 := Tryd.isAgg134
  z46 := Tryd.sizeOf134
  v46 := Tryd.zeroValue134
  t51 := Tryd.underlying137
  a51 := Tryd.isAgg137
  z51 := Tryd.sizeOf137
  v51 := Tryd.zeroValue137
  t105 := Tryd.underlying126
  a105 := Tryd.isAgg126
  z105 := Tryd.sizeOf126
  v105 := Tryd.zeroValue126
  t119 := Tryd.underlying130
  a119 := Tryd.isAgg130
  z119 := Tryd.sizeOf130
  t138 := Tryd.underlying132
  a138 := Tryd.isAgg132
  z138 := Tryd.sizeOf132
  v138 := Tryd.zeroValue132
  t139 := Tryd.underlying133
  a139 := Tryd.isAgg133
  z139 := Tryd.sizeOf133
  v139 := Tryd.zeroValue133
  t146 := Tryd.underlying138
  a146 := Tryd.isAgg138
  z146 := Tryd.sizeOf138
  v146 := Tryd.zeroValue138
  g1 := by kernel_rfl
  g3 := by kernel_rfl
  g4 := by kernel_rfl
  i0 := by kernel_rfl
  i3 := by kernel_rfl
  i4 := by kernel_rfl
  i5 := by kernel_rfl
  i9 := by kernel_rfl
  i21 := by kernel_rfl
  i31 := by kernel_rfl
  i46 := by kernel_rfl
  i51 := by kernel_rfl
  i105 := by kernel_rfl
  i138 := by kernel_rfl
  i139 := by kernel_rfl
  i146 := by kernel_rfl
  m1 := by kernel_rfl
  s1_3 := fun w h => Go.Proofs.cell_of_shapedOpen_int (zero := #[.int .i64 0]) (t := 3) h (of_decide_eq_true (by kernel_rfl)) (by kernel_rfl) rfl (by kernel_rfl) (by kernel_rfl) Tryd.underlying3
  m3 := by kernel_rfl
  m4 := by kernel_rfl }
def Tryd.laysIdxF_ren : Go.Shelf.Ren := ⟨fun | 6 => 78 | n => n, fun | 22 => 37 | 23 => 3 | 25 => 103 | 3 => 3 | 0 => 0 | 4 => 4 | n => n, fun | n => n⟩
theorem Tryd.laysIdxF : Go.Proofs.SlLaysH.n6 Tryd.prog Tryd.laysIdxF_ren := {
  mixed := by kernel_rfl
  f6 := ⟨"slices.IndexFunc[[]int,int]", by decide, Tryd.func78.trans (congrArg some (by kernel_rfl))⟩
  t0 := Tryd.underlying0
  a0 := Tryd.isAgg0
  z0 := Tryd.sizeOf0
  v0 := Tryd.zeroValue0
  t3 := Tryd.underlying3
  a3 := Tryd.isAgg3
  z3 := Tryd.sizeOf3
  v3 := Tryd.zeroValue3
  t4 := Tryd.underlying4
  a4 := Tryd.isAgg4
  z4 := Tryd.sizeOf4
  v4 := Tryd.zeroValue4
  t22 := Tryd.underlying37
  a22 := Tryd.isAgg37
  z22 := Tryd.sizeOf37
  v22 := Tryd.zeroValue37
  a23 := Tryd.isAgg3
  z23 := Tryd.sizeOf3
  t25 := Tryd.underlying103
  a25 := Tryd.isAgg103
  z25 := Tryd.sizeOf103
  v25 := Tryd.zeroValue103 }

def TabsL (w : World) : Prop := Tabs w ∧ ∃ m, w.cell? ⟨Tryd.laysSplit_ren.g 1, 0, none⟩ = some (.int .i64 m)
theorem tabsL_on {w w' : World} (h : TabsL w) (hb : Below w.heap.size w w') : TabsL w' := by
  refine ⟨tabs_on h.1 hb, ?_⟩
  obtain ⟨m, hm⟩ := h.2
  refine ⟨m, ?_⟩
  rw [hb.cell (p := ⟨Tryd.laysSplit_ren.g 1, 0, none⟩) (World.block_lt_of_cell? _ _ hm)]
  exact hm
/-- A path's names. -/
def splB (s : ByteArray) : List ByteArray := Lib.splitB { data := #[47] } 0 (Lib.countB s { data := #[47] }) s
theorem splB_len (s : ByteArray) : (splB s).length = Lib.countB s { data := #[47] } + 1 := Lib.splitB_all { data := #[47] } (by decide) 0 _ s rfl
theorem split_any (s : ByteArray) (w : World) (hT : TabsL w) (hs : s.size ≤ 4000000) :
    Calls Tryd.prog 77 #[.string s, .string { data := #[47] }] w fun e w' => e = .returned (.slice (some ⟨w.heap.size, 0, none⟩) (splB s).length (splB s).length) ∧ w'.heap[w.heap.size]? = some (.cells ((splB s).map Value.string).toArray 9 (0, 0)) ∧ Below w.heap.size w w' := by
  obtain ⟨m, hm⟩ := hT.2
  refine (Any.strings_Split { Tryd.laysSplit with } Tryd.laysSplit.i9 s { data := #[47] } m w (by omega) hm (by decide)).mono ?_
  rintro e w' ⟨rfl, rfl⟩
  exact ⟨by rw [splB_len], World.alloc_heap_new _ _, (Below.refl _ _).alloc (Nat.le_refl _) _⟩
theorem named1_any {n0 n1 : Nat} (L : List Nd) (x : Int) (nm : ByteArray) (g o c : Nat) (W : World) (h0 : W.cell? ⟨n0, 0, none⟩ = some (.slice (some ⟨g, o, none⟩) L.length c)) (h1 : W.cell? ⟨n1, 0, none⟩ = some (.string nm))
    (hx0 : 0 ≤ x) (hx1 : x < L.length) (hc : W.cell? ⟨g, o + x.toNat * 19 + 1, none⟩ = some (.string (nmAt L x))) :
    Calls Tryd.prog 79 #[.int .i64 x, .pointer (some ⟨n0, 0, none⟩), .pointer (some ⟨n1, 0, none⟩)] W fun e w' => e = .returned (.bool ((nmAt L x).toList == nm.toList)) ∧ ∃ q, w' = W.drewN q := by
  obtain ⟨m, hm⟩ : ∃ m, L.length = m := ⟨_, rfl⟩
  rw [hm] at h0 hx1
  obtain ⟨nx, hnx⟩ : ∃ nx, nmAt L x = nx := ⟨_, rfl⟩
  rw [hnx] at hc ⊢
  have hix : (x.toNat : Int) = x := by omega
  have hxm : x.toNat < m := by omega
  have hmx := mixed
  clear hm hnx
  go_enter Tryd.func79, Tryd.ntmps79
  go_wp2
  go_quiet (fail)
  go_wp2
  refine bodyPost_ret (v := .bool (nx.toList == nm.toList)) (by simp [results, Tryd.results79, go_sem, *]) rfl ⟨rfl, _, rfl⟩
/-- What IndexFunc tells. -/
def IdxP (xs : List Int) (p : Int → Bool) (r : Int) : Prop := (r = -1 ∧ xs.find? p = none) ∨ ∃ k, ∃ h : k < xs.length, r = (k : Int) ∧ xs.find? p = some xs[k]
theorem find_first {p : Int → Bool} : ∀ (xs : List Int) (k : Nat) (h : k < xs.length), p xs[k] = true → (∀ j (hj : j < k), p (xs[j]'(by omega)) = false) → xs.find? p = some xs[k]
  | x :: xs, 0, _, h1, _ => by
    have h1' : p x = true := h1
    rw [List.find?_cons_of_pos h1']
    rfl
  | x :: xs, k + 1, h, h1, h2 => by
    rw [List.find?_cons_of_neg (by have := h2 0 (by omega); simp only [List.getElem_cons_zero] at this; rw [this]; decide)]
    exact find_first xs k (by simpa using h) (by simpa using h1) (fun j hj => by simpa using h2 (j + 1) (by omega))
theorem index_named {B n0 n1 : Nat} (L : List Nd) (A : Option Addr) (c : Nat) (nm : ByteArray) (xs : List Int) (hx : ∀ x ∈ xs, 0 ≤ x ∧ x < L.length) (Ak : Option Addr) (ck : Nat) (w : World) (hAk : At B w Ak (ints xs)) (hA : NdsAt B w A L) (hB : B ≤ w.heap.size) (h0 : w.cell? ⟨n0, 0, none⟩ = some (.slice A L.length c)) (h1 : w.cell? ⟨n1, 0, none⟩ = some (.string nm)) (hl : xs.length ≤ 1000000) :
    Calls Tryd.prog 78 #[.slice Ak xs.length ck, .func (.func 79) #[] #[.pointer (some ⟨n0, 0, none⟩), .pointer (some ⟨n1, 0, none⟩)]] w fun e w' => ∃ r, e = .returned (.int .i64 r) ∧ IdxP xs (fun x => (nmAt L x).toList == nm.toList) r ∧ Below w.heap.size w w' := by
  by_cases hz : xs.length = 0
  · have : xs = [] := List.eq_nil_of_length_eq_zero hz
    subst this
    refine (AnyE.slices_IndexFunc_empty Tryd.laysIdxF Ak ck _ w).mono ?_
    rintro e w' ⟨rfl, rfl⟩
    exact ⟨-1, rfl, .inl ⟨rfl, rfl⟩, Below.refl _ _⟩
  · obtain ⟨g2, o2, rfl, hg2, hc2⟩ := hAk (by rw [ints_len]; omega)
    have hx00 := hx (xs[0]'(by omega)) (List.getElem_mem _)
    have hLp : 0 < L.length := by omega
    obtain ⟨g, o, rfl, hg, _⟩ := hA hLp
    haveI : Inhabited { x : Int // 0 ≤ x ∧ x < L.length } := ⟨⟨0, by omega, by omega⟩⟩
    have hn0 := World.block_lt_of_cell? _ _ h0
    have hn1 := World.block_lt_of_cell? _ _ h1
    obtain ⟨zs, hzs⟩ : ∃ zs : List { x : Int // 0 ≤ x ∧ x < L.length }, zs = xs.pmap (fun x h => ⟨x, h⟩) hx := ⟨_, rfl⟩
    have hzl : zs.length = xs.length := by rw [hzs, List.length_pmap]
    have hzv : ∀ j (hj : j < xs.length), (zs[j]!).val = xs[j] := fun j hj => by
      rw [getElem!_pos zs j (by omega)]
      simp [hzs]
    have eg : ∀ (args : Array Value) (w : World), (callFunc 79 args).run Tryd.prog w = .ok (.enter 79 args) w := enters_of Tryd.func79 (by kernel_rfl) rfl
    have C : Calls Tryd.prog 78 #[.slice (some ⟨g2, o2, none⟩) xs.length ck, .func (.func 79) #[] #[.pointer (some ⟨n0, 0, none⟩), .pointer (some ⟨n1, 0, none⟩)]] w _ :=
      AnyE.slices_IndexFunc Tryd.laysIdxF (fun x : { x : Int // 0 ≤ x ∧ x < L.length } => Value.int .i64 x.val) (fun x => (nmAt L x.val).toList == nm.toList) 79 #[.pointer (some ⟨n0, 0, none⟩), .pointer (some ⟨n1, 0, none⟩)] eg g2 o2 xs.length ck zs w
        (fun W x hb => by
          have hil : x.val.toNat < L.length := by have := x.property; omega
          obtain ⟨g', o', e', _, hf⟩ := (hA.below (hb.mono hB)).name hil
          injection e' with e'
          injection e' with e1 e2
          subst e1
          subst e2
          have hnm : nmAt L x.val = (L[x.val.toNat]'hil).name := by unfold nmAt; rw [List.getElem?_eq_getElem hil]; rfl
          exact named1_any L x.val nm g o c W (by rw [hb.cell (p := ⟨n0, 0, none⟩) hn0]; exact h0) (by rw [hb.cell (p := ⟨n1, 0, none⟩) hn1]; exact h1) x.property.1 x.property.2 (by rw [hnm]; exact hf))
        (by omega) (by omega) (fun j hj => by
          rw [hzl] at hj
          show w.cell? _ = some (Value.int .i64 (zs[j]!).val)
          rw [hzv j hj]
          exact hc2 j _ (ints_at xs j hj))
    refine C.mono ?_
    rintro e w' ⟨rfl, q, rfl⟩
    rw [List.take_of_length_le (by omega)]
    refine ⟨_, rfl, ?_, below_drewN' (Below.refl _ _) q⟩
    rcases idxByFrom_spec (fun _ y => (nmAt L y.val).toList == nm.toList) (default : { x : Int // 0 ≤ x ∧ x < L.length }) zs 0 with ⟨e1, e2⟩ | ⟨k, hk, e1, e2, e3⟩
    · refine .inl ⟨e1, List.find?_eq_none.2 fun x hxm => ?_⟩
      obtain ⟨j, hj, rfl⟩ := List.getElem_of_mem hxm
      have := e2 j (by omega)
      rw [hzv j hj] at this
      rw [this]
      decide
    · rw [hzl] at hk
      refine .inr ⟨k, hk, by show Lib.idxByFrom _ _ zs 0 = _; rw [e1, Nat.zero_add], find_first xs k hk ?_ fun j hj => ?_⟩
      · rw [← hzv k hk]
        exact e2
      · rw [← hzv j (by omega)]
        exact e3 j hj
def namF (L : List Nd) : List ByteArray → List Int → Int → Int × Int
  | [], _, a => (a, 0)
  | p :: ps, xs, _ => match xs.find? (fun k => (nmAt L k).toList == p.toList) with
    | none => (0, 81)
    | some k => namF L ps (kidF L L.length k.toNat) k
def namedE (L : List Nd) (path : ByteArray) : Int × Int := if chkB L then namF L (splB path) [0] 0 else (0, 6)
theorem Named_any {B : Nat} (L : List Nd) (hok : ∀ n ∈ L, n.ok) (A : Option Addr) (c : Nat) (path : ByteArray) (w : World) (hT : TabsL w) (hA : NdsAt B w A L) (hB : B ≤ w.heap.size) (hl : L.length ≤ 9000000000000) (hps : path.size ≤ 4000000) :
    Calls Tryd.prog 32 #[.agg #[.slice A L.length c], .string path] w fun e w' => e = .returned (.tuple #[.int .i64 (namedE L path).1, .int .i64 (namedE L path).2]) ∧ Below w.heap.size w w' := by
  obtain ⟨n, hn⟩ : ∃ n, w.heap.size = n := ⟨_, rfl⟩
  obtain ⟨W, hW⟩ : ∃ W, w.alloc (.cells #[.slice A L.length c] 25) = W := ⟨_, rfl⟩
  have hBW : Below n w W := by
    rw [← hW, ← hn]
    exact (Below.refl _ _).alloc (Nat.le_refl _) _
  have hc0 : W.heap[n]? = some (.cells #[.slice A L.length c] 25 (0, 0)) := by
    rw [← hW, ← hn]
    exact World.alloc_heap_new _ _
  have b0 : Box1 W n (.slice A L.length c) := Box1.of_heap hc0
  have hs1 := hBW.size
  have hA1 := hA.below (hBW.mono (by omega))
  have C := TCheck_any L hok A c W (tabs_on hT.1 (by rw [hn]; exact hBW)) hA1 (by omega)
  have HW := hid hW
  have HBW := hid hBW
  have HB0 := hid b0
  have HN := hid hn
  have HA := hid hA
  have HT := hid hT
  have k0 := b0.c
  unfold namedE
  unfold chkC at C
  cases hc : chkB L with
  | false =>
    rw [hc] at C
    rw [if_neg (by decide)] at C
    rw [if_neg (by decide)]
    obtain ⟨m, hm⟩ : ∃ m, L.length = m := ⟨_, rfl⟩
    rw [hm] at C k0 HW ⊢
    clear hc hm hn hA hA1 hok hT hW hBW hc0 b0 hl
    go_enter Tryd.func32, Tryd.ntmps32
    go_upto_region 1 with fail
    rw [HW.out, HN.out]
    go_wp2_with fail
    with_reducible refine C.mono ?_
    rintro e w2 ⟨rfl, hb2⟩
    have hF := hid (HBW.out.trans (hb2.mono (by have := HN.out; omega)))
    clear C k0 hb2
    go_wp2
    refine bodyPost_ret (v := .tuple #[.int .i64 0, .int .i64 6]) (by simp [results, Tryd.results32, go_sem, *]) rfl ⟨rfl, by rw [HN.out]; exact hF.out⟩
  | true =>
    rw [hc] at C
    rw [if_pos rfl] at C
    rw [if_pos rfl]
    obtain ⟨⟨U, D⟩, hUD⟩ : ∃ x, parE L = some x := Option.isSome_iff_exists.1 hc
    have hTO := parE_ok hUD
    have hn1 := hTO.n1
    have hn2 := hTO.n2
    have hkt := hTO.kt
    have hPl : (splB path).length ≤ 4000001 := by
      rw [splB_len]
      have := Lib.countB_le { data := #[47] } (by decide) path.size path (Nat.le_refl _)
      omega
    obtain ⟨P, hP⟩ : ∃ P, splB path = P := ⟨_, rfl⟩
    rw [hP] at hPl
    have CS := fun (w3 : World) (hb : Below W.heap.size W w3) => split_any path w3 (tabsL_on hT (by rw [hn]; exact hBW.trans (hb.mono (by omega)))) hps
    rw [hP] at CS ⊢
    obtain ⟨Z, hZ⟩ : ∃ Z, namF L P [0] 0 = Z := ⟨_, rfl⟩
    rw [hZ]
    have HZ := hid hZ
    have HCS := hid CS
    have HKT := hid hkt
    obtain ⟨m, hm⟩ : ∃ m, L.length = m := ⟨_, rfl⟩
    have HM := hid hm
    rw [hm] at C k0 HW HB0 hn1 hn2 ⊢
    clear hc hm hn hA hA1 hok hT hW hBW hc0 b0 hl hUD hTO hkt CS hZ hP
    go_enter Tryd.func32, Tryd.ntmps32
    go_upto_region 1 with fail
    rw [HW.out, HN.out]
    go_wp2_with fail
    with_reducible refine C.mono ?_
    rintro e w2 ⟨rfl, hb2⟩
    obtain ⟨w3, hw3⟩ : ∃ w3, w2.alloc (.cells #[.int .i64 0] 3) = w3 := ⟨_, rfl⟩
    have hb3 : Below w2.heap.size w2 w3 := by
      rw [← hw3]
      exact (Below.refl _ _).alloc (Nat.le_refl _) _
    have hx3 : w3.heap[w2.heap.size]? = some (.cells #[.int .i64 0] 3 (0, 0)) := by
      rw [← hw3]
      exact World.alloc_heap_new _ _
    have hs3 : w3.heap.size = w2.heap.size + 1 := by rw [← hw3]; simp
    have CS3 := HCS.out w3 (hb2.trans (hb3.mono hb2.size))
    have HB3 := hid (hb2.trans (hb3.mono hb2.size))
    have HX3 := hid hx3
    have HS3 := hid hs3
    have HW3 := hid hw3
    clear C k0 hb2 hb3 hx3 hs3 hw3 HCS
    go_upto_region 5 with fail
    rw [HW3.out]
    go_wp2_with fail
    with_reducible refine CS3.mono ?_
    rintro e w4 ⟨rfl, hsp, hb4⟩
    have hAt0 : At w4.heap.size w4 (some ⟨w2.heap.size, 0, none⟩) (ints [0]) := by
      intro _
      refine ⟨w2.heap.size, 0, rfl, by have := HS3.out; have := hb4.size; omega, fun j v hj => ?_⟩
      rw [blk_cell ((hb4.block _ (lt_of_block HX3.out)).trans HX3.out), Nat.zero_add]
      simpa [ints] using hj
    have HSP := hid hsp
    have HB4 := hid (HB3.out.trans (hb4.mono HB3.out.size))
    have HAT0 := hid hAt0
    have hs34 := hb4.size
    have hl4 := lt_of_block hsp
    clear CS3 hsp hb4 hAt0
    go_wp2
    go_loopg [7, 8, 21] P.length (fun gh v7 v8 v21 wr => ∃ (i : Nat) (a : Int) (xs : List Int) (Ak : Option Addr) (ck : Nat), v7 = .int .i64 a ∧ v8 = .slice Ak xs.length ck ∧ v21 = .int .i64 (i : Int) ∧ i ≤ P.length ∧ P.length - i ≤ gh ∧ Hid (namF L (P.drop i) xs a = Z) ∧ Hid (∀ x ∈ xs, 0 ≤ x ∧ x < L.length) ∧ xs.length ≤ 2048 ∧ Hid (At w4.heap.size wr Ak (ints xs)) ∧ Hid (Below w4.heap.size w4 wr))
    case atStart => exact ⟨0, 0, [0], some ⟨w2.heap.size, 0, none⟩, 1, rfl, rfl, rfl, by omega, by omega, HZ, hid (fun x hx => by
      rw [List.mem_singleton] at hx
      subst hx
      have := HM.out
      omega), by decide, HAT0, hid (Below.refl _ _)⟩
    case round =>
      obtain ⟨i, a, xs, Ak, ck, rfl, rfl, rfl, hi, hgh, HQ, HXS, hxl, HAT, HBR⟩ := hrel
      generalize wr = w0 at *
      have hs0 := HBR.out.size
      by_cases hlt : i < P.length
      · have hli : (i : Int) < (P.length : Int) := by omega
        have hq := HQ.out
        rw [List.drop_eq_getElem_cons hlt, namF] at hq
        obtain ⟨nm, hnm⟩ : ∃ nm, P[i] = nm := ⟨_, rfl⟩
        rw [hnm] at hq
        have cP : w0.cell? ⟨w3.heap.size, i, none⟩ = some (.string nm) := by
          rw [HBR.out.cell (p := ⟨w3.heap.size, i, none⟩) hl4, blk_cell HSP.out]
          simp [hnm, hlt]
        have lP : w3.heap.size < w0.heap.size := by omega
        obtain ⟨w5, hw5⟩ : ∃ w5, w0.alloc (.cells #[.string nm] 9) = w5 := ⟨_, rfl⟩
        have hb5 : Below w0.heap.size w0 w5 := by
          rw [← hw5]
          exact (Below.refl _ _).alloc (Nat.le_refl _) _
        have h5n : w5.cell? ⟨w0.heap.size, 0, none⟩ = some (.string nm) := by
          rw [← hw5, blk_cell (World.alloc_heap_new _ _)]
          rfl
        have hB5 : Below W.heap.size W w5 := (HB4.out.trans (HBR.out.mono HB4.out.size)).trans (hb5.mono (by have := HB4.out.size; omega))
        have hBn : Below n w w5 := HBW.out.trans (hB5.mono (by have := HN.out; omega))
        have h50 := (HB0.out.below hB5 HB0.out.lt).c
        have hA5 := HA.out.below (hBn.mono (by have := HN.out; omega))
        have hs5 := hb5.size
        have CI := index_named L A c nm xs HXS.out Ak ck w5 (HAT.out.below (hb5.mono hs0)) (hA5.mono (show B ≤ w4.heap.size by have := HB4.out.size; have := HN.out; omega)) (by omega) (by rw [HM.out]; exact h50) h5n (by omega)
        have HCI := hid CI
        have HW5 := hid hw5
        have HBn := hid hBn
        have HB5 := hid hb5
        have HQ2 := hid hq
        have HA5 := hid hA5
        clear CI hw5 hb5 h5n hB5 hBn h50 hA5 hq hnm
        go_upto_region 8 with fail
        rw [HW5.out]
        go_wp2_with fail
        with_reducible refine HCI.out.mono ?_
        rintro e w6 ⟨r, rfl, hr, hb6⟩
        have hs6 := hb6.size
        have h5s : w0.heap.size ≤ w5.heap.size := HB5.out.size
        have HBn6 := hid (HBn.out.trans (hb6.mono (by have := HBn.out.size; have := HN.out; omega)))
        rcases hr with ⟨rfl, hf⟩ | ⟨k, hk, rfl, hf⟩
        · have hq2 := HQ2.out
          rw [hf] at hq2
          simp only at hq2
          subst hq2
          clear HCI hb6 hf
          go_wp2
          refine bodyPost_ret (v := .tuple #[.int .i64 0, .int .i64 81]) (by simp [results, Tryd.results32, go_sem, *]) rfl ⟨rfl, by rw [HN.out]; exact HBn6.out⟩
        · have hq2 := HQ2.out
          rw [hf] at hq2
          simp only at hq2
          have hb56 := HB5.out.trans (hb6.mono HB5.out.size)
          have hBR6 := HBR.out.trans (hb56.mono hs0)
          obtain ⟨g2, o2, rfl, hg2, cK⟩ := (HAT.out.below (hb56.mono hs0)).int hk
          have hyr := HXS.out xs[k] (List.getElem_mem hk)
          obtain ⟨y, hy⟩ : ∃ y, xs[k] = y := ⟨_, rfl⟩
          rw [hy] at cK hyr hq2
          have hyl : y.toNat < L.length := by omega
          have hA6 := HA5.out.below (hb6.mono (by have := HBn.out.size; have := HN.out; omega))
          obtain ⟨g, o, Aw, cw, Ak, ck2, rfl, hg, _, hak, q0, q1, q2, q3, q4, q5, q6, q7, q8, q9, q10, q11, q12, q13, q14, q15, q16, q17, q18⟩ := hA6.nd hyl
          have hkid : kidF L L.length y.toNat = (L[y.toNat]'hyl).kids := kidF_at hyl
          obtain ⟨KX, hKX⟩ : ∃ KX, kidF L L.length y.toNat = KX := ⟨_, rfl⟩
          rw [hKX] at hkid hq2
          rw [← hkid] at q18 hak
          have hkr := HKT.out.kr y.toNat hyl
          have hkl := HKT.out.kl hyl
          rw [hKX] at hkr hkl
          have cN : w6.cell? ⟨n, 0, none⟩ = some (.slice (some ⟨g, o, none⟩) m c) := by
            have h1 : Below W.heap.size W w6 := ((HB4.out.trans (HBR.out.mono HB4.out.size)).trans (hb56.mono (by have := HB4.out.size; omega)))
            exact (HB0.out.below h1 HB0.out.lt).c
          have HAK := hid (hak.mono (show B ≤ w4.heap.size by have := HB4.out.size; have := HN.out; omega))
          have HKR := hid (show ∀ x ∈ KX, 0 ≤ x ∧ x < L.length from fun x hx => ⟨(hkr x hx).1, (hkr x hx).2.1⟩)
          have HQ3 := hid hq2
          have HBR6 := hid hBR6
          have hix : (y.toNat : Int) = y := by have := hyr.1; omega
          have hym : y.toNat < m := by have := HM.out; omega
          have hyi : y < (m : Int) := by have := HM.out; omega
          have hy0 : 0 ≤ y := hyr.1
          have hki : (k : Int) < (xs.length : Int) := by omega
          have hk0 : ¬ (k : Int) < 0 := by omega
          have lg2 : g2 < w6.heap.size := by omega
          have lg : g < w6.heap.size := by have := HBn6.out.size; have := HN.out; omega
          have hKl : KX.length ≤ 2048 := by have := HM.out; omega
          clear HCI hb6 hf hq2 hb56 hBR6 hy hyr hA6 q0 q1 q2 q3 q4 q5 q6 q7 q8 q9 q10 q11 q12 q13 q14 q15 q16 q17 hkid hKX hak hkr hkl
          go_wp2
          go_roundg (P.length - (i + 1))
          case measure => omega
          case rel => exact ⟨i + 1, y, KX, Ak, ck2, rfl, rfl, by go_num, by omega, by omega, HQ3, HKR, hKl, HAK, HBR6⟩
      · have q : ¬ (i : Int) < (P.length : Int) := by omega
        have hq := HQ.out
        rw [List.drop_eq_nil_of_le (by omega), namF] at hq
        subst hq
        have HF := hid (HBW.out.trans ((HB4.out.trans (HBR.out.mono HB4.out.size)).mono (by have := HN.out; omega)))
        go_wp2
        refine bodyPost_ret (v := .tuple #[.int .i64 a, .int .i64 0]) (by simp [results, Tryd.results32, go_sem, *]) rfl ⟨rfl, by rw [HN.out]; exact HF.out⟩
end Go.Proofs.YtnkojoajcdhngaaDoor
