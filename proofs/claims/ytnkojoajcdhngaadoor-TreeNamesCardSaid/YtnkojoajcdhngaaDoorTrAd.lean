/- Layer 8: the iterator below(..) as a contract (Iter2). -/
import Derived.Test.YtnkojoajcdhngaaDoorTrAc
import Derived.Test.YtnkojoajcdhngaaDoorRfMem
import Derived.Laws.EntriesVeiled
namespace Go.Proofs.YtnkojoajcdhngaaDoor
set_option linter.unusedVariables false
set_option linter.unusedSimpArgs false
set_option maxRecDepth 100000
open Go.RowKit Go.Shelf Go.Lib
attribute [local go_sem] Oper.semAt_some
set_option maxRecDepth 100000
set_option maxHeartbeats 16000000

/-- What the iterator has captured. -/
structure BSt (base gl : Nat) (K : Nat → List Int) (vs : List Value) (up : Bool) (node depth : Int) (bU bL bN bD : Nat) (W : World) : Prop where
  u : W.heap[bU]? = some (.cells #[.bool up] 4 (0, 0))
  l : LsAt W bL gl vs.length
  n : W.heap[bN]? = some (.cells #[.int .i64 node] 3 (0, 0))
  d : W.heap[bD]? = some (.cells #[.int .i64 depth] 3 (0, 0))
  r : Rws base gl K vs W
def BR (gl : Nat) (vs : List Value) (bU bL bN bD : Nat) (k : Nat) : Prop := k = bU ∨ k = bL ∨ k = bN ∨ k = bD ∨ k = gl ∨ ∃ (i : Nat) (v : Value), vs[i]? = some v ∧ v.ownBlock = some k
theorem BSt.lt {base gl : Nat} {K : Nat → List Int} {vs : List Value} {up : Bool} {node depth : Int} {bU bL bN bD : Nat} {W : World} (h : BSt base gl K vs up node depth bU bL bN bD W) {k : Nat} (hk : BR gl vs bU bL bN bD k) : k < W.heap.size := by
  rcases hk with rfl | rfl | rfl | rfl | rfl | ⟨i, v, hv, hb⟩
  · exact lt_of_block h.u
  · exact h.l.lt
  · exact lt_of_block h.n
  · exact lt_of_block h.d
  · exact h.r.lt
  · exact ((h.r.ow i v hv).lt k hb).2
theorem BSt.on {base gl : Nat} {K : Nat → List Int} {vs : List Value} {up : Bool} {node depth : Int} {bU bL bN bD : Nat} {W W' : World} (h : BSt base gl K vs up node depth bU bL bN bD W) (t : Turn (fun _ => False) W W') : BSt base gl K vs up node depth bU bL bN bD W' := by
  have hs : ∀ k, k < W.heap.size → W'.heap[k]? = W.heap[k]? := fun k hk => t.block k hk (fun x => x)
  exact ⟨(hs _ (lt_of_block h.u)).trans h.u, h.l.same (hs _ h.l.lt), (hs _ (lt_of_block h.n)).trans h.n, (hs _ (lt_of_block h.d)).trans h.d,
    ⟨h.r.hd.same (hs _ h.r.lt), fun i v hv => own_same (h.r.ow i v hv) fun k hk => hs k ((h.r.ow i v hv).lt k hk).2, h.r.ap, h.r.ne, h.r.ge⟩⟩
theorem visit_any {base gl : Nat} {K : Nat → List Int} {vs : List Value} (up : Bool) {lp bU bL bY bV : Nat} {J Jx : List (Int × Int) → (Nat → Prop) → World → Prop} {Sp : List (Int × Int) → Prop} (hvs : vs.length ≤ 1000000) (hks : ∀ i, (K i).length ≤ 9000000000000000)
    (hY : ∀ (m : Nat) pre x M W1, J pre M W1 → Sp (pre ++ [x]) → YieldAt Fence.wide m Tryd.prog lp #[.int .i64 x.1, .int .i64 x.2] W1 fun e W' => (e = .returned (.bool true) ∧ ∃ M', J (pre ++ [x]) M' W' ∧ Keep2 M M' W1 W') ∨ (e = .returned (.bool false) ∧ ∃ M', Jx (pre ++ [x]) M' W'))
    (f : Nat) (i d : Int) (n : Nat) (pre : List (Int × Int)) (M : Nat → Prop) (W : World) (h1 : Dep K vs.length f i) (h2 : 0 ≤ d) (h3 : d + f ≤ 1000000) (h4 : J pre M W) (h5 : VSt base gl K vs up lp bU bL bY bV W) (h6 : ∀ k, VR gl vs bU bL bY bV k → ¬ M k) (h7 : ∀ p, p <+: subF K up f i d → Sp (pre ++ p)) :
      CallsIn Fence.wide n Tryd.prog 97 #[.int .i64 i, .int .i64 d, .pointer (some ⟨bU, 0, none⟩), .pointer (some ⟨bY, 0, none⟩), .pointer (some ⟨bL, 0, none⟩), .pointer (some ⟨bV, 0, none⟩)] W (VPost base gl K vs up lp bU bL bY bV J Jx pre (subF K up f i d)) := by
  cases up with
  | false => exact visit_down hvs hks hY f i d n pre M W h1 h2 h3 h4 h5 h6 h7
  | true => exact visit_up hvs hks hY f i d n pre M W h1 h2 h3 h4 h5 h6 h7
/-- Below's iterator: S: all is gone through; Sp: a beginning of it. -/
theorem below_iter {base gl : Nat} {K : Nat → List Int} {vs : List Value} {up : Bool} {node depth : Int} {bU bL bN bD : Nat} (n f : Nat) (w0 : World) (h : BSt base gl K vs up node depth bU bL bN bD w0) (hvs : vs.length ≤ 1000000) (hks : ∀ i, (K i).length ≤ 9000000000000000) (hD : Dep K vs.length f node) (hd0 : 0 ≤ depth) (hd1 : depth + f ≤ 1000000) :
    Iter2 Fence.wide n Tryd.prog 96 #[.pointer (some ⟨bU, 0, none⟩), .pointer (some ⟨bL, 0, none⟩), .pointer (some ⟨bN, 0, none⟩), .pointer (some ⟨bD, 0, none⟩)] (fun x : Int × Int => #[.int .i64 x.1, .int .i64 x.2]) (BR gl vs bU bL bN bD)
      (fun xs => xs = subF K up f node depth) (fun pre => pre <+: subF K up f node depth) w0 := by
  intro lp J Jx M0 W hW hJ hJx hR hM0 hMlt hY h0
  have hB := h.on hW
  obtain ⟨X, hX⟩ : ∃ X, W.heap.size = X := ⟨_, rfl⟩
  obtain ⟨fv, hfv⟩ : ∃ fv, Value.func (.func 97) #[] #[.pointer (some ⟨bU, 0, none⟩), .pointer (some ⟨X, 0, none⟩), .pointer (some ⟨bL, 0, none⟩), .pointer (some ⟨X + 1, 0, none⟩)] = fv := ⟨_, rfl⟩
  obtain ⟨V, hV⟩ : ∃ V, ((W.alloc (.cells #[.func (.yield lp) #[] #[]] 105)).alloc (.cells #[.nilFunc] 105)).setCell ⟨X + 1, 0, none⟩ fv = V := ⟨_, rfl⟩
  have hs2 : ((W.alloc (.cells #[.func (.yield lp) #[] #[]] 105)).alloc (.cells #[.nilFunc] 105)).heap.size = X + 2 := by simp [hX]
  have hnw : ((W.alloc (.cells #[.func (.yield lp) #[] #[]] 105)).alloc (.cells #[.nilFunc] 105)).heap[X + 1]? = some (.cells #[.nilFunc] 105 (0, 0)) := by
    have h2 := World.alloc_heap_new (W.alloc (.cells #[.func (.yield lp) #[] #[]] 105)) (.cells #[.nilFunc] 105)
    rwa [World.size_alloc, hX] at h2
  have hc2 : ((W.alloc (.cells #[.func (.yield lp) #[] #[]] 105)).alloc (.cells #[.nilFunc] 105)).cell? ⟨X + 1, 0, none⟩ = some .nilFunc := by rw [blk_cell hnw]; rfl
  have hf2 := blk_frozen hnw 0
  have hv1 : V.heap[X]? = some (.cells #[.func (.yield lp) #[] #[]] 105 (0, 0)) := by
    rw [← hV, Below.heap_setCell _ _ _ _ (by show X ≠ X + 1; omega), Below.heap_alloc _ _ _ (by simp; omega), ← hX]
    exact World.alloc_heap_new _ _
  have hv2 : V.heap[X + 1]? = some (.cells #[fv] 105 (0, 0)) := by
    rw [← hV]
    have h3 := store_in (i := 0) (u := fv) hnw
    simpa using h3
  have bV : Below X W V := by
    rw [← hV, ← hX]
    exact (((Below.refl _ _).alloc (Nat.le_refl _) _).alloc (by simp) _).setCell (by show W.heap.size ≤ W.heap.size + 1; omega) _
  have tV : Turn (fun _ => False) W V := by rw [← hX] at bV; exact Turn.of_below bV
  have sV : V.heap.size = X + 2 := by rw [← hV, ← hs2]; simp [World.setCell]
  have hBV := hB.on tV
  have hJV := hJ _ _ _ _ h0 tV
  have hST : VSt base gl K vs up lp bU bL X (X + 1) V := ⟨hBV.u, hBV.l, hv1, by rw [hv2, hfv], hBV.r⟩
  have hNM : ∀ k, VR gl vs bU bL X (X + 1) k → ¬ M0 k := by
    rintro k (rfl | rfl | rfl | rfl | rfl | hk) hm
    · exact hR _ (.inl rfl) hm
    · exact hR _ (.inr (.inl rfl)) hm
    · have := hM0 _ hm; omega
    · have := hM0 _ hm; omega
    · exact hR _ (.inr (.inr (.inr (.inr (.inl rfl))))) hm
    · exact hR _ (.inr (.inr (.inr (.inr (.inr hk))))) hm
  have C := visit_any (lp := lp) (bU := bU) (bL := bL) (bY := X) (bV := X + 1) (J := J) (Jx := Jx) (Sp := fun pre => pre <+: subF K up f node depth) up hvs hks
    (fun m pre x M W1 h1 h2 => yield_any (hY pre x M W1 h1 h2)) f node depth (n - 1) [] M0 V hD hd0 hd1 hJV hST hNM (fun p hp => hp)
  have cn : V.cell? ⟨bN, 0, none⟩ = some (.int .i64 node) := by rw [blk_cell hBV.n]; rfl
  have cd : V.cell? ⟨bD, 0, none⟩ = some (.int .i64 depth) := by rw [blk_cell hBV.d]; rfl
  have cf : V.cell? ⟨X + 1, 0, none⟩ = some fv := by rw [blk_cell hv2]; rfl
  subst hfv
  have HC := hid C
  have HV := hid hV
  clear hnw hY h0 hJ hJx hR hM0 hMlt hB hs2 hv1 hv2 bV tV sV hBV hJV hST hNM C hW h hvs hks hD hd0 hd1
  refine callsIn_of_wp Tryd.func96 rfl trivial ?_ rfl
  simp only [Tryd.ntmps96, List.size_toArray, List.length_cons, List.length_nil, Nat.reduceAdd, Nat.reduceSub, Array.replicate_succ, Array.replicate_zero, List.push_toArray, List.append_toArray, List.nil_append, List.cons_append]
  gi_wp2_with (refine ⟨trivial, fun h => (by cases h), ?_⟩; refine HC.out.mono ?_; rintro e w9 (⟨rfl, M3, hJ3, -⟩ | ⟨rfl, p, M3, hp3, hJx3⟩))
  · gi_wp2
    go_end0
    exact ⟨⟨_, rfl⟩, .inl ⟨_, M3, rfl, hJ3⟩⟩
  · gi_wp2
    go_end0
    exact ⟨⟨_, rfl⟩, .inr ⟨_, M3, hp3, hJx3⟩⟩
end Go.Proofs.YtnkojoajcdhngaaDoor

/- Layer 8: below(..) itself; an iterator's value as a contract that lasts (ItAt); Walk's empty iterator. -/
namespace Go.Proofs.YtnkojoajcdhngaaDoor
set_option linter.unusedVariables false
set_option linter.unusedSimpArgs false
set_option maxRecDepth 100000
open Go.RowKit Go.Shelf Go.Lib
attribute [local go_sem] Oper.semAt_some
set_option maxRecDepth 100000
set_option maxHeartbeats 16000000

theorem below_any {base gl : Nat} {K : Nat → List Int} {vs : List Value} (up : Bool) (node depth : Int) (cap : Nat) (w : World) (hR : Rws base gl K vs w) :
    Calls Tryd.prog 60 #[.slice (some ⟨gl, 0, none⟩) vs.length cap, .int .i64 node, .int .i64 depth, .bool up] w fun e w' => Below w.heap.size w w' ∧
      e = .returned (.func (.func 96) #[] #[.pointer (some ⟨w.heap.size + 3, 0, none⟩), .pointer (some ⟨w.heap.size, 0, none⟩), .pointer (some ⟨w.heap.size + 1, 0, none⟩), .pointer (some ⟨w.heap.size + 2, 0, none⟩)]) ∧ BSt base gl K vs up node depth (w.heap.size + 3) w.heap.size (w.heap.size + 1) (w.heap.size + 2) w' := by
  obtain ⟨nv, hnv⟩ : ∃ nv, vs.length = nv := ⟨_, rfl⟩
  obtain ⟨L, hL⟩ : ∃ L, L = [Obj.cells #[.slice (some ⟨gl, 0, none⟩) vs.length cap] 79 (0, 0), Obj.cells #[.int .i64 node] 3 (0, 0), Obj.cells #[.int .i64 depth] 3 (0, 0), Obj.cells #[.bool up] 4 (0, 0)] := ⟨_, rfl⟩
  have hb := allocs_below L w
  have e0 := allocs_get L w 0 _ (by rw [hL]; rfl)
  have e1 := allocs_get L w 1 _ (by rw [hL]; rfl)
  have e2 := allocs_get L w 2 _ (by rw [hL]; rfl)
  have e3 := allocs_get L w 3 _ (by rw [hL]; rfl)
  have HF := hid (show Below w.heap.size w (allocs w L) ∧ BSt base gl K vs up node depth (w.heap.size + 3) w.heap.size (w.heap.size + 1) (w.heap.size + 2) (allocs w L) from ⟨hb, e3, ⟨cap, e0⟩, e1, e2, hR.on hb⟩)
  rw [hL] at HF
  simp only [allocs] at HF
  rw [hnv] at HF ⊢
  clear e0 e1 e2 e3 hb hL
  go_enter Tryd.func60, Tryd.ntmps60
  go_wp2
  refine bodyPost_ret (v := .func (.func 96) #[] #[.pointer (some ⟨w.heap.size + 3, 0, none⟩), .pointer (some ⟨w.heap.size, 0, none⟩), .pointer (some ⟨w.heap.size + 1, 0, none⟩), .pointer (some ⟨w.heap.size + 2, 0, none⟩)]) (by simp [results, Tryd.results60, go_sem, *]) rfl ⟨HF.out.1, rfl, HF.out.2⟩
abbrev encP (x : Int × Int) : Array Value := #[.int .i64 x.1, .int .i64 x.2]
/-- A function value that goes through xs, whenever the blocks R stand. -/
structure ItAt {α : Type} (encs : α → Array Value) (W : World) (B : Nat) (fv : Value) (xs : List α) (gf : Nat) (lb : Array Value) (R : Nat → Prop) : Prop where
  v : fv = .func (.func gf) #[] lb
  lt : ∀ k, R k → k < W.heap.size
  ge : ∀ k, R k → B ≤ k
  eg : ∀ args w, (callFunc gf args).run Tryd.prog w = .ok (.enter gf args) w
  it : ∀ (n : Nat) (W' : World), W.heap.size ≤ W'.heap.size → (∀ k, R k → W'.heap[k]? = W.heap[k]?) → Iter2 Fence.wide n Tryd.prog gf lb encs R (fun l => l = xs) (fun l => l <+: xs) W'
theorem BSt.same {base gl : Nat} {K : Nat → List Int} {vs : List Value} {up : Bool} {node depth : Int} {bU bL bN bD : Nat} {W W' : World} (h : BSt base gl K vs up node depth bU bL bN bD W) (hs : ∀ k, BR gl vs bU bL bN bD k → W'.heap[k]? = W.heap[k]?) : BSt base gl K vs up node depth bU bL bN bD W' :=
  ⟨(hs _ (.inl rfl)).trans h.u, h.l.same (hs _ (.inr (.inl rfl))), (hs _ (.inr (.inr (.inl rfl)))).trans h.n, (hs _ (.inr (.inr (.inr (.inl rfl))))).trans h.d,
    ⟨h.r.hd.same (hs _ (.inr (.inr (.inr (.inr (.inl rfl)))))), fun i v hv => own_same (h.r.ow i v hv) fun k hk => hs k (.inr (.inr (.inr (.inr (.inr ⟨i, v, hv, hk⟩))))), h.r.ap, h.r.ne, h.r.ge⟩⟩
theorem below_it {base gl : Nat} {K : Nat → List Int} {vs : List Value} {up : Bool} {node depth : Int} {bU bL bN bD B : Nat} (f : Nat) (W : World) (h : BSt base gl K vs up node depth bU bL bN bD W) (hvs : vs.length ≤ 1000000) (hks : ∀ i, (K i).length ≤ 9000000000000000) (hD : Dep K vs.length f node) (hd0 : 0 ≤ depth) (hd1 : depth + f ≤ 1000000)
    (hB : B ≤ base) (h1 : B ≤ bU) (h2 : B ≤ bL) (h3 : B ≤ bN) (h4 : B ≤ bD) :
    ItAt encP W B (.func (.func 96) #[] #[.pointer (some ⟨bU, 0, none⟩), .pointer (some ⟨bL, 0, none⟩), .pointer (some ⟨bN, 0, none⟩), .pointer (some ⟨bD, 0, none⟩)]) (subF K up f node depth) 96 #[.pointer (some ⟨bU, 0, none⟩), .pointer (some ⟨bL, 0, none⟩), .pointer (some ⟨bN, 0, none⟩), .pointer (some ⟨bD, 0, none⟩)] (BR gl vs bU bL bN bD) := by
  refine ⟨rfl, fun k hk => h.lt hk, ?_, by simp [go_sem], fun n W' _ hs => below_iter n f W' (h.same hs) hvs hks hD hd0 hd1⟩
  rintro k (rfl | rfl | rfl | rfl | rfl | ⟨i, v, hv, hb⟩)
  · exact h1
  · exact h2
  · exact h3
  · exact h4
  · have := h.r.ge; omega
  · have := ((h.r.ow i v hv).lt k hb).1; omega
/-- The iterator of a spec that may not be. -/
theorem none_it (W : World) (B : Nat) : ItAt encP W B (.func (.func 81) #[] #[]) [] 81 #[] (fun _ => False) := by
  refine ⟨rfl, fun k hk => hk.elim, fun k hk => hk.elim, by simp [go_sem], fun n W' _ _ => ?_⟩
  intro lp J Jx M0 V hW hJ hJx hR hM0 hMlt hY h0
  refine callsIn_of_wp Tryd.func81 rfl trivial ?_ rfl
  simp only [Tryd.ntmps81, List.size_toArray, List.length_cons, List.length_nil, Nat.reduceAdd, Nat.reduceSub, Array.replicate_succ, Array.replicate_zero, List.push_toArray, List.append_toArray, List.nil_append, List.cons_append]
  clear hY
  gi_wp2
  go_end0
  exact ⟨⟨_, rfl⟩, .inl ⟨M0, h0⟩⟩
end Go.Proofs.YtnkojoajcdhngaaDoor
