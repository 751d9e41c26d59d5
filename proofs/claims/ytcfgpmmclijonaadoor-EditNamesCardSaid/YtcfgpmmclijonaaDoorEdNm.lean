/- Layer 25: editors that New did not make; keys at given texts. -/
import Derived.Test.YtcfgpmmclijonaaDoorEdBd
import Derived.Test.YtcfgpmmclijonaaDoorEdSh
namespace Go.Proofs.YtcfgpmmclijonaaDoor
set_option linter.unusedVariables false
set_option linter.unusedSimpArgs false
set_option maxRecDepth 100000
open Go.RowKit Go.Shelf Go.Lib
set_option maxRecDepth 100000
set_option maxHeartbeats 8000000

/-- Not an editor. -/
def NoEd (w : World) (v : Value) : Prop := ∀ w1, Below w.heap.size w w1 → Calls Tryd.prog 24 #[v] w1 fun e w' => e = .returned (.int .i64 1) ∧ Below w1.heap.size w1 w'
theorem NoEd.on {w w' : World} {v : Value} (h : NoEd w v) (hb : Below w.heap.size w w') : NoEd w' v := fun w1 hb1 => h w1 (hb.trans (hb1.mono hb.size))
theorem noed_nil (w : World) : NoEd w (.pointer none) := by
  intro w1 _
  go_enter Tryd.func24, Tryd.ntmps24
  go_wp2
  go_ret
  exact ⟨rfl, Below.refl _ _⟩
theorem noed_plain {w : World} {g : Nat} (h : w.heap[g]? = some (.cells #[.bool false, .string ⟨#[]⟩, .int .i64 0, .int .i64 0, .pointer none, .pointer none, .int .i64 0, .int .i64 0] 56 (0, 0))) : NoEd w (.pointer (some ⟨g, 0, none⟩)) := by
  intro w1 hb
  have h1 := (hb.block _ (lt_of_block h)).trans h
  have c0 : w1.cell? ⟨g, 0, none⟩ = some (.bool false) := by rw [blk_cell h1]; rfl
  have hl := lt_of_block h1
  clear h h1
  go_enter Tryd.func24, Tryd.ntmps24
  go_wp2
  go_ret
  exact ⟨rfl, Below.refl _ _⟩
section
variable {w : World} {v : Value}
theorem Text_no (h : NoEd w v) : Calls Tryd.prog 20 #[v] w fun e w' => e = .returned (.tuple #[.agg #[.string { data := #[] }, .int .i64 0, .int .i64 0], .int .i64 1]) ∧ Below w.heap.size w w' := by
  have hB1 := (Below.refl w.heap.size w).alloc (Nat.le_refl _) (.cells #[.string { data := #[] }, .int .i64 0, .int .i64 0] 31)
  have hr : (w.alloc (.cells #[.string { data := #[] }, .int .i64 0, .int .i64 0] 31)).heap[w.heap.size]? = some (.cells #[.string { data := #[] }, .int .i64 0, .int .i64 0] 31 (0, 0)) := World.alloc_heap_new _ _
  have C := h _ hB1
  clear h
  go_enter Tryd.func20, Tryd.ntmps20
  go_wp2_with fail
  with_reducible refine C.mono ?_
  rintro e w2 ⟨rfl, hb2⟩
  have hs2 := hb2.size
  simp only [World.size_alloc] at hs2
  have r2 := (hb2.block w.heap.size (by simp)).trans hr
  have hlw : w.heap.size < w2.heap.size := by omega
  have hB2 := hB1.trans (hb2.mono hB1.size)
  have r3 := blk_cell r2 0
  have r4 := blk_cell r2 1
  have r5 := blk_cell r2 2
  have r6 := blk_frozen r2
  clear C hb2 r2 hr
  go_wp2
  refine bodyPost_ret (v := .tuple #[.agg #[.string { data := #[] }, .int .i64 0, .int .i64 0], .int .i64 1]) (by simp [results, Tryd.results20, go_sem, *]) rfl ⟨rfl, by first | (repeat first | with_reducible exact hB2 | refine Below.setCell ?_ (by first | exact Nat.le_refl _ | (simp; omega)) _ | refine Below.alloc ?_ (by simp; omega) _) | exact (hB2.alloc hB2.size _)⟩
theorem Chosen_no (h : NoEd w v) : Calls Tryd.prog 12 #[v] w fun e w' => e = .returned (.tuple #[.string ⟨#[]⟩, .int .i64 1]) ∧ Below w.heap.size w w' := by
  have C := h w (Below.refl _ _)
  clear h
  go_enter Tryd.func12, Tryd.ntmps12
  go_wp2_with fail
  with_reducible refine C.mono ?_
  rintro e w1 ⟨rfl, hb1⟩
  go_wp2
  exact bodyPost_ret (by simp [results, Tryd.results12, go_sem, *]) rfl ⟨rfl, hb1⟩
theorem Undo_no (h : NoEd w v) : Calls Tryd.prog 16 #[v] w fun e w' => e = .returned (.tuple #[.bool false, .int .i64 1]) ∧ Below w.heap.size w w' := by
  have C := h w (Below.refl _ _)
  clear h
  go_enter Tryd.func16, Tryd.ntmps16
  go_wp2_with fail
  with_reducible refine C.mono ?_
  rintro e w1 ⟨rfl, hb1⟩
  go_wp2
  exact bodyPost_ret (by simp [results, Tryd.results16, go_sem, *]) rfl ⟨rfl, hb1⟩
theorem Show_no (h : NoEd w v) (n : Int) : Calls Tryd.prog 18 #[v, .int .i64 n] w fun e w' => e = .returned (.tuple #[.string ⟨#[]⟩, .int .i64 0, .int .i64 1]) ∧ Below w.heap.size w w' := by
  have C := h w (Below.refl _ _)
  clear h
  go_enter Tryd.func18, Tryd.ntmps18
  go_wp2_with fail
  with_reducible refine C.mono ?_
  rintro e w1 ⟨rfl, hb1⟩
  go_wp2
  exact bodyPost_ret (by simp [results, Tryd.results18, go_sem, *]) rfl ⟨rfl, hb1⟩
theorem Depth_no (h : NoEd w v) : Calls Tryd.prog 14 #[v] w fun e w' => e = .returned (.tuple #[.int .i64 0, .int .i64 0]) ∧ Below w.heap.size w w' := by
  have C := h w (Below.refl _ _)
  clear h
  go_enter Tryd.func14, Tryd.ntmps14
  go_wp2_with fail
  with_reducible refine C.mono ?_
  rintro e w1 ⟨rfl, hb1⟩
  go_wp2
  exact bodyPost_ret (by simp [results, Tryd.results14, go_sem, *]) rfl ⟨rfl, hb1⟩
theorem Type_no (h : NoEd w v) (s : ByteArray) : Calls Tryd.prog 13 #[v, .string s] w fun e w' => e = .returned (.int .i64 1) ∧ Below w.heap.size w w' := by
  have C := h w (Below.refl _ _)
  clear h
  go_enter Tryd.func13, Tryd.ntmps13
  go_wp2_with fail
  with_reducible refine C.mono ?_
  rintro e w1 ⟨rfl, hb1⟩
  go_wp2
  go_ret
  exact ⟨rfl, hb1⟩
theorem Move_no (h : NoEd w v) (a : Int) (keep : Bool) : Calls Tryd.prog 9 #[v, .int .i64 a, .bool keep] w fun e w' => e = .returned (.int .i64 1) ∧ Below w.heap.size w w' := by
  have C := h w (Below.refl _ _)
  clear h
  go_enter Tryd.func9, Tryd.ntmps9
  go_wp2_with fail
  with_reducible refine C.mono ?_
  rintro e w1 ⟨rfl, hb1⟩
  go_wp2
  go_ret
  exact ⟨rfl, hb1⟩
theorem Key_no (h : NoEd w (.pointer none)) (s : ByteArray) (md : Nat) : Calls Tryd.prog 21 #[.pointer none, .agg #[.string s, .int .u8 (md : Int)]] w fun e w' => e = .returned (.tuple #[.bool false, .int .i64 1]) ∧ Below w.heap.size w w' := by
  obtain ⟨W, hW⟩ : ∃ W, (((w.alloc (.cells #[.pointer none] 22)).alloc (.cells #[.string s, .int .u8 (md : Int)] 41)).alloc (.cells #[.bool false] 4)).alloc (.cells #[.int .i64 0] 23) = W := ⟨_, rfl⟩
  have hB : Below w.heap.size w W := by
    rw [← hW]
    exact ((((Below.refl _ _).alloc (Nat.le_refl _) _).alloc (by simp) _).alloc (by first | (simp; done) | (simp; omega)) _).alloc (by first | (simp; done) | (simp; omega)) _
  have hs : W.heap.size = w.heap.size + 1 + 1 + 1 + 1 := by rw [← hW]; simp
  have n2 : W.heap[w.heap.size + 1 + 1]? = some (.cells #[.bool false] 4 (0, 0)) := by
    rw [← hW, Below.heap_alloc _ _ _ (by simp)]
    simpa using World.alloc_heap_new ((w.alloc (.cells #[.pointer none] 22)).alloc (.cells #[.string s, .int .u8 (md : Int)] 41)) (.cells #[.bool false] 4)
  have n3 : W.heap[w.heap.size + 1 + 1 + 1]? = some (.cells #[.int .i64 0] 23 (0, 0)) := by
    rw [← hW]
    simpa using World.alloc_heap_new (((w.alloc (.cells #[.pointer none] 22)).alloc (.cells #[.string s, .int .u8 (md : Int)] 41)).alloc (.cells #[.bool false] 4)) (.cells #[.int .i64 0] 23)
  have HW := hid hW
  have N2 := hid n2
  have N3 := hid n3
  have C := h W hB
  clear h hW n2 n3
  have hmf : ∀ (fn : Fn) (first cap : Array Value) (w : World), (Instr.makeFunc fn first cap).run Tryd.prog w = .ok (.func fn first cap) w := fun _ _ _ _ => rfl
  go_enter_defers Tryd.func21, Tryd.ntmps21
  go_wp2_with fail
  rw [HW.out]
  with_reducible refine C.mono ?_
  rintro e w2 ⟨rfl, hb2⟩
  have p2 := (hb2.block _ (lt_of_block N2.out)).trans N2.out
  have p3 := (hb2.block _ (lt_of_block N3.out)).trans N3.out
  have d2 : w2.cell? ⟨w.heap.size + 1 + 1, 0, none⟩ = some (.bool false) := by rw [blk_cell p2]; rfl
  have d3 : w2.cell? ⟨w.heap.size + 1 + 1 + 1, 0, none⟩ = some (.int .i64 0) := by rw [blk_cell p3]; rfl
  have f2 := blk_frozen p2 0
  have f3 := blk_frozen p3 0
  have hs2 := hb2.size
  have hB2 := hB.trans (hb2.mono hB.size)
  have hg7 : Below w.heap.size w ((w2.setCell ⟨w.heap.size + 1 + 1, 0, none⟩ (.bool false)).setCell ⟨w.heap.size + 1 + 1 + 1, 0, none⟩ (.int .i64 1)) := (hB2.setCell (by simp; omega) _).setCell (by simp; omega) _
  have h27 : ((w2.setCell ⟨w.heap.size + 1 + 1, 0, none⟩ (.bool false)).setCell ⟨w.heap.size + 1 + 1 + 1, 0, none⟩ (.int .i64 1)).heap[w.heap.size + 1 + 1]? = some (.cells #[.bool false] 4 (0, 0)) := store_off (store_in p2) (by omega)
  have h37 : ((w2.setCell ⟨w.heap.size + 1 + 1, 0, none⟩ (.bool false)).setCell ⟨w.heap.size + 1 + 1 + 1, 0, none⟩ (.int .i64 1)).heap[w.heap.size + 1 + 1 + 1]? = some (.cells #[.int .i64 1] 23 (0, 0)) := store_in (store_off p3 (by omega))
  have r20 : ((w2.setCell ⟨w.heap.size + 1 + 1, 0, none⟩ (.bool false)).setCell ⟨w.heap.size + 1 + 1 + 1, 0, none⟩ (.int .i64 1)).cell? ⟨w.heap.size + 1 + 1, 0, none⟩ = some (.bool false) := by rw [blk_cell h27]; rfl
  have r30 : ((w2.setCell ⟨w.heap.size + 1 + 1, 0, none⟩ (.bool false)).setCell ⟨w.heap.size + 1 + 1 + 1, 0, none⟩ (.int .i64 1)).cell? ⟨w.heap.size + 1 + 1 + 1, 0, none⟩ = some (.int .i64 1) := by rw [blk_cell h37]; rfl
  have HG7 := hid hg7
  have HR := hid (And.intro r20 r30)
  clear C p2 p3 hg7 h27 h37 r20 r30
  go_wp2
  obtain ⟨r20, r30⟩ := HR.out
  exact ⟨.tuple #[.bool false, .int .i64 1], by simp [results, Tryd.results21, go_sem, r30, r20], rfl, HG7.out⟩
end

/-! ### keys at given texts -/
section
variable {w : World} {g : Nat} {E : Ed}
theorem key_go (hT : Tabs w) (h : EdS w g E) (ho : EdOk E) (hk : E.k < 256) (s : ByteArray) (md : Nat) (hm : mayB ⟨s.data.toList, md⟩ = true) (hz : (decide (s = ⟨#[122]⟩) && decide (md = 2)) = false) (hyz : ((decide (s = ⟨#[121]⟩) && decide (md = 2)) || (decide (s = ⟨#[122]⟩) && decide (md = 3))) = false)
    {x y : Nat} (hact : keyE E.b E.x E.y s md = .go x y) {d : Bool} (hd : (!txEq E.b E.b (x : Int) (E.x : Int) (y : Int) (E.y : Int)) = d) :
    Calls Tryd.prog 21 #[.pointer (some ⟨g, 0, none⟩), .agg #[.string s, .int .u8 (md : Int)]] w fun e w' => e = .returned (.tuple #[.bool d, .int .i64 0]) ∧ EdS w' g { E with x := x, y := y } ∧ w.grownBy w' (some g) := by
  refine (Key_any hT h ho.1 ho.le.1 ho.le.2 hk s md hm hz hyz).mono ?_
  rintro e w' ⟨did, err, E', rfl, hE, hg, hdid, hR⟩
  rw [hact] at hR
  obtain ⟨rfl, rfl⟩ := hR
  have : did = d := by rw [hdid, ← hd]; simp
  rw [this]
  exact ⟨rfl, hE, hg⟩
theorem key_no (hT : Tabs w) (h : EdS w g E) (ho : EdOk E) (hk : E.k < 256) (s : ByteArray) (md : Nat) (hm : mayB ⟨s.data.toList, md⟩ = true) (hz : (decide (s = ⟨#[122]⟩) && decide (md = 2)) = false) (hyz : ((decide (s = ⟨#[121]⟩) && decide (md = 2)) || (decide (s = ⟨#[122]⟩) && decide (md = 3))) = false)
    (hact : keyE E.b E.x E.y s md = .no ∨ ∃ lo, keyE E.b E.x E.y s md = .ed ⟨#[]⟩ lo lo) :
    Calls Tryd.prog 21 #[.pointer (some ⟨g, 0, none⟩), .agg #[.string s, .int .u8 (md : Int)]] w fun e w' => e = .returned (.tuple #[.bool false, .int .i64 0]) ∧ EdS w' g E ∧ w.grownBy w' (some g) := by
  refine (Key_any hT h ho.1 ho.le.1 ho.le.2 hk s md hm hz hyz).mono ?_
  rintro e w' ⟨did, err, E', rfl, hE, hg, hdid, hR⟩
  have key : err = 0 ∧ E' = E := by
    rcases hact with hact | ⟨lo, hact⟩
    · rw [hact] at hR
      exact hR
    · rw [hact] at hR
      rcases hR with ⟨h1, _, _⟩ | ⟨_, h2, ⟨_, _, h3⟩ | ⟨h3, _⟩⟩
      · exfalso
        have := ho.1
        have h2 : (⟨#[]⟩ : ByteArray).size = 0 := rfl
        omega
      · exact ⟨h2, h3⟩
      · exact absurd ⟨rfl, rfl⟩ h3
  obtain ⟨rfl, rfl⟩ := key
  have : did = false := by rw [hdid, (show txEq E'.b E'.b (E'.x : Int) (E'.x : Int) (E'.y : Int) (E'.y : Int) = true by simp [txEq])]; simp
  rw [this]
  exact ⟨rfl, hE, hg⟩
theorem key_ed (hT : Tabs w) (h : EdS w g E) (ho : EdOk E) (hk : E.k < 256) (s : ByteArray) (md : Nat) (hm : mayB ⟨s.data.toList, md⟩ = true) (hz : (decide (s = ⟨#[122]⟩) && decide (md = 2)) = false) (hyz : ((decide (s = ⟨#[121]⟩) && decide (md = 2)) || (decide (s = ⟨#[122]⟩) && decide (md = 3))) = false)
    {s' b' : ByteArray} {lo hi z : Nat} (hact : keyE E.b E.x E.y s md = .ed s' lo hi) (hl : E.b.size - (hi - lo) + s'.size ≤ 65536) (hn : ¬ (lo = hi ∧ s'.size = 0)) (hb : cat3 E.b s' lo hi = b') (hs : settledE b'.data.toList (lo + s'.size) = z) {d : Bool} (hd : (!txEq b' E.b (z : Int) (E.x : Int) (z : Int) (E.y : Int)) = d) :
    Calls Tryd.prog 21 #[.pointer (some ⟨g, 0, none⟩), .agg #[.string s, .int .u8 (md : Int)]] w fun e w' => ∃ t, e = .returned (.tuple #[.bool d, .int .i64 0]) ∧ EdS w' g ⟨b', z, z, some ⟨t, 0, none⟩, none, E.k + 1, 0⟩ ∧ w.grownBy w' (some g) := by
  refine (Key_any hT h ho.1 ho.le.1 ho.le.2 hk s md hm hz hyz).mono ?_
  rintro e w' ⟨did, err, E', rfl, hE, hg, hdid, hR⟩
  rw [hact] at hR
  rcases hR with ⟨h1, _, _⟩ | ⟨_, h2, ⟨h3, h4, _⟩ | ⟨_, t, z', _, h5, h6, _⟩⟩
  · omega
  · exact absurd ⟨h3, h4⟩ hn
  · rw [hb] at h5 h6
    rw [hs] at h5
    subst h5 h2 h6
    have : did = d := by rw [hdid, ← hd]; simp
    rw [this]
    exact ⟨t, rfl, hE, hg⟩
end
end Go.Proofs.YtcfgpmmclijonaaDoor
