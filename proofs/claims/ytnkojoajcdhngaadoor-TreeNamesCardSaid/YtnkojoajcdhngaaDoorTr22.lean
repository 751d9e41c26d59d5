/- Layer 8: form: how the order is found. -/
import Derived.Test.YtnkojoajcdhngaaDoorTr21
import Derived.Test.YtnkojoajcdhngaaDoorTr16
import Derived.IntWalk
import Derived.Carry
namespace Go.Proofs.YtnkojoajcdhngaaDoor
set_option linter.unusedVariables false
set_option linter.unusedSimpArgs false
set_option maxRecDepth 100000
open Go.RowKit Go.Shelf Go.Lib
attribute [local go_sem] Oper.semAt_some
set_option maxRecDepth 100000
set_option maxHeartbeats 16000000

/-- Behind O: the map, the order, the boxes. -/
structure FoS (n D : Nat) (w : World) (O : List Int) (A1 : Option Addr) (c1 : Nat) (W : World) : Prop where
  mp : W.heap[n + 1]? = some (.map (entE O) O.length)
  b0 : Box1 W n (.slice none 0 0)
  b2 : Box1 W (n + 1 + 1) (.map (some (n + 1)))
  b3 : Box1 W (n + 1 + 1 + 1) (.slice A1 O.length c1)
  ro : W.ownsRow (D + 2) 3 1 (.slice A1 O.length c1) O.length (ints O)
  bl : Below n w W
def FoM (n : Nat) (A1 : Option Addr) (k : Nat) : Prop := k = n + 1 ∨ k = n + 1 + 1 + 1 ∨ (Value.slice A1 0 0).ownBlock = some k
theorem own_slice {A : Option Addr} {n c m d : Nat} : (Value.slice A n c).ownBlock = (Value.slice A m d).ownBlock := by cases A <;> rfl
theorem FoS.turn {n D : Nat} {w : World} {O : List Int} {A1 : Option Addr} {c1 : Nat} {W W' : World} (h : FoS n D w O A1 c1 W) (hn : w.heap.size = n) (t : Turn (fun k => k = D ∨ k = D + 1) W W') (hD : n + 4 ≤ D) : FoS n D w O A1 c1 W' :=
  ⟨(t.block _ (lt_of_block h.mp) (by omega)).trans h.mp, h.b0.turn t (by omega), h.b2.turn t (by omega), h.b3.turn t (by omega), own_turn h.ro t (fun k hk => by omega), below_turn h.bl (Nat.le_of_eq hn.symm) t (fun k hk => by omega)⟩
theorem FoS.on {n D : Nat} {w : World} {O : List Int} {A1 : Option Addr} {c1 : Nat} {W W' : World} (h : FoS n D w O A1 c1 W) (hn : w.heap.size = n) (hb : Below W.heap.size W W') : FoS n D w O A1 c1 W' := by
  have hs := h.bl.size
  exact ⟨(hb.block _ (lt_of_block h.mp)).trans h.mp, h.b0.below hb h.b0.lt, h.b2.below hb h.b2.lt, h.b3.below hb h.b3.lt, own_below' h.ro hb, h.bl.trans (hb.mono (by omega))⟩
/-- Below, called: an iterator over the node and what is below it, whose blocks are those of the rows, or new. -/
theorem below_walk {base gl : Nat} {K : Nat → List Int} {vs : List Value} (up : Bool) (node d : Int) (f cap : Nat) (w : World) (hR : Rws base gl K vs w) (hvs : vs.length ≤ 1000000) (hks : ∀ i, (K i).length ≤ 9000000000000000) (hD : Dep K vs.length f node) (hd0 : 0 ≤ d) (hd1 : d + f ≤ 1000000) (b0 : Nat) (hgl : gl < b0) (hlt : ∀ (i : Nat) (v : Value) (k : Nat), vs[i]? = some v → v.ownBlock = some k → k < b0) :
    Calls Tryd.prog 60 #[.slice (some ⟨gl, 0, none⟩) vs.length cap, .int .i64 node, .int .i64 d, .bool up] w fun e w' => Below w.heap.size w w' ∧ ∃ fv gf lb R, e = .returned fv ∧ ItAt encP w' 0 fv (subF K up f node d) gf lb R ∧ ∀ k, R k → k < b0 ∨ w.heap.size ≤ k := by
  refine (below_any up node d cap w hR).mono ?_
  rintro e w' ⟨hb, rfl, hS⟩
  refine ⟨hb, _, _, _, _, rfl, below_it f w' hS hvs hks hD hd0 hd1 (Nat.zero_le _) (Nat.zero_le _) (Nat.zero_le _) (Nat.zero_le _) (Nat.zero_le _), ?_⟩
  rintro k (rfl | rfl | rfl | rfl | rfl | ⟨i, v, hv, hk⟩)
  · exact .inr (by omega)
  · exact .inr (by omega)
  · exact .inr (by omega)
  · exact .inr (by omega)
  · exact .inl hgl
  · exact .inl (hlt i v k hv hk)
def FoI (n D : Nat) (w : World) (pre : List (Int × Int)) (M : Nat → Prop) (W : World) : Prop := ∃ A1 c1, FoS n D w (pre.map (·.1)) A1 c1 W ∧ M = FoM n A1
/-- A node in its new place. -/
def mkN (L : List Nd) (K : Nat → List Int) (O : List Int) (x : Int) : Option Nd := (L[x.toNat]?).map fun nd => { nd with kids := (K x.toNat).map (posI O) }
def formL (L : List Nd) (K : Nat → List Int) (O : List Int) : List Nd := O.filterMap (mkN L K O)
/-- The rows of the new nodes. -/
structure FoR (b : Nat) (W : World) (M : List Nd) (i : Nat) (T : List Tri) (A2 : Option Addr) (c2 : Nat) (wr : World) : Prop where
  bl : Below b W wr
  bx : Box1 wr b (.slice A2 i c2)
  le : T.length = i
  ts : T.map (·.1) = M
  ro : wr.ownsRow (b + 1) 39 19 (.slice A2 i c2) i (cellsT T)
  tr : ∀ t ∈ T, TriO (b + 1) wr t
def FormP (w : World) (R : List Nd) (e : Ending) (w' : World) : Prop := ∃ A c, e = .returned (.agg #[.slice A R.length c]) ∧ SpecO w.heap.size w' A c R ∧ Below w.heap.size w w'
theorem SpecO.turn {C : Nat → Prop} {base : Nat} {w w' : World} {A : Option Addr} {c : Nat} {L : List Nd} (h : SpecO base w A c L) (t : Turn C w w') (hC : ∀ k, base ≤ k → ¬ C k) : SpecO base w' A c L := by
  obtain ⟨T, h1, h2, h3⟩ := h
  exact ⟨T, h1, own_turn h2 t hC, fun t' ht => ⟨own_turn (h3 t' ht).1 t hC, own_turn (h3 t' ht).2 t hC⟩⟩
theorem own_ne {w : World} {b1 b2 s1 s2 n1 n2 : Nat} {e1 e2 : TypeId} {v1 v2 : Value} {x1 x2 : List Value} (h1 : w.ownsRow b1 e1 s1 v1 n1 x1) (h2 : w.ownsRow b2 e2 s2 v2 n2 x2) (he : e1 ≠ e2) (k : Nat) (hk : v1.ownBlock = some k) : v2.ownBlock ≠ some k := by
  intro hk2
  rcases h1.2 with ⟨rfl, _⟩ | ⟨g, cap, cur, rfl, _, hh, _⟩
  · cases hk
  · rcases h2.2 with ⟨rfl, _⟩ | ⟨g2, cap2, cur2, rfl, _, hh2, _⟩
    · cases hk2
    · injection hk with hk
      injection hk2 with hk2
      simp only at hk hk2
      subst hk
      subst hk2
      rw [hh] at hh2
      injection hh2 with hh2
      injection hh2 with _ h3
      exact he h3
theorem own_other {w w' : World} {b1 b2 s1 s2 n1 n2 : Nat} {e1 e2 : TypeId} {v1 v2 : Value} {x1 x2 : List Value} (h1 : w.ownsRow b1 e1 s1 v1 n1 x1) (h2 : w.ownsRow b2 e2 s2 v2 n2 x2) (he : e1 ≠ e2) (hg : w.grownBy w' v2.ownBlock) : w'.ownsRow b1 e1 s1 v1 n1 x1 := by
  refine h1.kept hg ?_
  cases hv : v1.ownBlock with
  | none => exact .inl rfl
  | some k => exact .inr fun e => own_ne h1 h2 he k hv e.symm
theorem NBox.set17 {b : Nat} {n : Nd} {vw vk : Value} {w : World} (h : NBox b n vw vk w) (v : Value) : NBox b n v vk (w.setCell ⟨b, 17, none⟩ v) := store_in (i := 17) (u := v) h
theorem NBox.set18 {b : Nat} {n : Nd} {vw vk : Value} {w : World} (h : NBox b n vw vk w) (v : Value) : NBox b n vw v (w.setCell ⟨b, 18, none⟩ v) := store_in (i := 18) (u := v) h
/-- While a node's kids are told. -/
structure FoK (s0 : Nat) (wr : World) (nd : Nd) (vw : Value) (M : List Int) (j : Nat) (A6 : Option Addr) (c6 : Nat) (w2 : World) : Prop where
  bl : Below s0 wr w2
  nb : NBox s0 nd vw (.slice A6 j c6) w2
  ow : w2.ownsRow (s0 + 1) 42 4 vw nd.wraps.length (wrs nd.wraps)
  ok : w2.ownsRow (s0 + 1) 3 1 (.slice A6 j c6) j (ints M)
theorem FoK.mid {s0 : Nat} {wr : World} {nd : Nd} {vw : Value} {M : List Int} {j : Nat} {A6 : Option Addr} {c6 : Nat} {w2 w5 : World} {o : Obj} (h : FoK s0 wr nd vw M j A6 c6 w2) (hg : (w2.alloc o).grownBy w5 (Value.slice A6 j c6).ownBlock) : NBox s0 nd vw (.slice A6 j c6) w5 := by
  have hge := own_ge h.ok
  have hn := lt_of_block h.nb
  exact (hg.block s0 (by simp; omega) (fun e => by have := hge s0 e.symm; omega)).trans ((Below.heap_alloc w2 o s0 hn).trans h.nb)
theorem FoK.step {s0 : Nat} {wr : World} {nd : Nd} {vw : Value} {M : List Int} {j : Nat} {A6 : Option Addr} {c6 : Nat} {w2 w5 : World} {o : Obj} {p : Int} {A7 : Option Addr} {c7 : Nat} (h : FoK s0 wr nd vw M j A6 c6 w2) (hs : wr.heap.size = s0)
    (ho : w5.ownsRow (s0 + 1) 3 1 (.slice A7 (j + 1) c7) (j + 1) (ints (M ++ [p]))) (hg : (w2.alloc o).grownBy w5 (Value.slice A6 j c6).ownBlock) : FoK s0 wr nd vw (M ++ [p]) (j + 1) A7 c7 (w5.setCell ⟨s0, 18, none⟩ (.slice A7 (j + 1) c7)) := by
  have hge := own_ge h.ok
  have hs2 := h.bl.size
  have hn := lt_of_block h.nb
  have hb5 : Below s0 wr w5 := (h.bl.alloc (by omega) o).grown hg (by simp; omega) (fun k hk => by have := hge k hk; omega)
  have n5 : NBox s0 nd vw (.slice A6 j c6) w5 := (hg.block s0 (by simp; omega) (fun e => by have := hge s0 e.symm; omega)).trans ((Below.heap_alloc w2 o s0 hn).trans h.nb)
  have w5o := own_other (h.ow.alloc o) (h.ok.alloc o) (by decide) hg
  exact ⟨hb5.setCell (by show s0 ≤ s0; omega) _, n5.set18 _, own_off w5o (fun e => by have := own_ge w5o s0 e; omega), own_off ho (fun e => by have := own_ge ho s0 e; omega)⟩
theorem info_nd : (Tryd.prog.info? 39).map (fun i => (i.zero, i.size, i.bytes)) = some (some (.agg #[.int .u8 0, .string { data := #[] }, .string { data := #[] }, .string { data := #[] }, .int .i64 0, .int .i64 0, .int .i64 0, .int .i64 0, .int .i64 0, .int .i64 0, .bool false, .int .i64 0, .int .i64 0, .int .i64 0, .int .i64 0, .int .i64 0, .bool false, .slice none 0 0, .slice none 0 0]), 19, 208) := by kernel_rfl
theorem fold_set : ∀ (cs z : List Value) (k : Nat), z.length = k + cs.length → (cs.zipIdx k).foldl (fun (a : Array Value) (x : Value × Nat) => a.setIfInBounds x.snd x.fst) z.toArray = (z.take k ++ cs).toArray
  | [], z, k, h => by
    rw [List.zipIdx_nil, List.foldl_nil, List.append_nil, List.take_of_length_le (by simp at h; omega)]
  | c :: cs, z, k, h => by
    rw [List.zipIdx_cons, List.foldl_cons]
    have e : z.toArray.setIfInBounds k c = (z.set k c).toArray := by simp
    simp only [e]
    rw [fold_set cs (z.set k c) (k + 1) (by simp at h ⊢; omega)]
    congr 1
    have hk : k < z.length := by simp at h; omega
    rw [List.take_succ_eq_append_getElem (by rw [List.length_set]; exact hk), List.getElem_set_self, List.take_set_of_le (Nat.le_refl _), List.append_assoc]
    rfl
theorem FoR.mid {b : Nat} {W : World} {M : List Nd} {i : Nat} {T : List Tri} {A2 : Option Addr} {c2 : Nat} {w0 : World} {nd : Nd} {vw : Value} {MK : List Int} {j : Nat} {A6 : Option Addr} {c6 : Nat} {wr w9 : World} {o : Obj} (h : FoR b W M i T A2 c2 w0) (hk : FoK w0.heap.size w0 nd vw MK j A6 c6 wr)
    (hg : (wr.alloc o).grownBy w9 (Value.slice A2 i c2).ownBlock) : Box1 w9 b (.slice A2 i c2) :=
  ((h.bx.below hk.bl h.bx.lt).alloc o).grown hg fun k hkk => by have := own_ge h.ro k hkk; omega
theorem FoR.step {b : Nat} {W : World} {M : List Nd} {i : Nat} {T : List Tri} {A2 : Option Addr} {c2 : Nat} {w0 : World} {nd : Nd} {vw : Value} {MK : List Int} {j : Nat} {A6 : Option Addr} {c6 : Nat} {wr w9 : World} {o : Obj} {A9 : Option Addr} {c9 : Nat} (h : FoR b W M i T A2 c2 w0) (hb : W.heap.size = b) (hk : FoK w0.heap.size w0 nd vw MK j A6 c6 wr) (hj : MK.length = j)
    (ho : w9.ownsRow (b + 1) 39 19 (.slice A9 (i + 1) c9) (i + 1) (cellsT T ++ ndC nd vw (.slice A6 j c6))) (hg : (wr.alloc o).grownBy w9 (Value.slice A2 i c2).ownBlock) :
    FoR b W (M ++ [{ nd with kids := MK }]) (i + 1) (T ++ [({ nd with kids := MK }, vw, .slice A6 j c6)]) A9 c9 (w9.setCell ⟨b, 0, none⟩ (.slice A9 (i + 1) c9)) := by
  have hge := own_ge h.ro
  have hlt := h.bx.lt
  have hs := hk.bl.size
  have hs0 := h.bl.size
  have roW := (own_below' h.ro hk.bl).alloc o
  have b9 : Below b W w9 := ((h.bl.trans (hk.bl.mono (by omega))).alloc (by omega) o).grown hg (by simp; omega) (fun k hkk => by have := hge k hkk; omega)
  have tri : ∀ t, TriO (b + 1) wr t → TriO (b + 1) (w9.setCell ⟨b, 0, none⟩ (.slice A9 (i + 1) c9)) t := fun t ht => by
    have t1 := own_other (ht.1.alloc o) roW (by decide) hg
    have t2 := own_other (ht.2.alloc o) roW (by decide) hg
    exact ⟨own_off t1 (fun e => by have := own_ge t1 b e; omega), own_off t2 (fun e => by have := own_ge t2 b e; omega)⟩
  refine ⟨b9.setCell (by show b ≤ b; omega) _, (h.mid hk hg).set _, by rw [List.length_append, h.le]; rfl, by rw [List.map_append, h.ts]; rfl, ?_, fun t ht => ?_⟩
  · rw [cellsT_append]
    have e : cellsT [(({ nd with kids := MK } : Nd), vw, Value.slice A6 j c6)] = ndC nd vw (.slice A6 j c6) := by
      show ndC _ _ _ ++ [] = _
      rw [List.append_nil]
      rfl
    rw [e]
    exact own_off ho (fun e => by have := own_ge ho b e; omega)
  · rcases List.mem_append.1 ht with ht | ht
    · exact tri t ((h.tr t ht).below hk.bl)
    · rw [List.mem_singleton] at ht
      subst ht
      refine tri _ ⟨own_mono hk.ow (by omega), ?_⟩
      show wr.ownsRow (b + 1) 3 1 (.slice A6 j c6) MK.length (ints MK)
      rw [hj]
      exact own_mono hk.ok (by omega)
theorem form_any {B base gl : Nat} {K : Nat → List Int} {vs : List Value} (L : List Nd) (hok : ∀ n ∈ L, n.ok) (A : Option Addr) (c cap f : Nat) (node : Int) (w : World) (hA : NdsAt B w A L) (hB : B ≤ w.heap.size) (hR : Rws base gl K vs w) (hvl : vs.length = L.length)
    (hvs : vs.length ≤ 1000000) (hks : ∀ i, (K i).length ≤ 1000000) (hD : Dep K vs.length f node) (hf : f ≤ 999999) (hnd : ((subF K false f node 1).map (·.1)).Nodup) (hol : (subF K false f node 1).length ≤ 1000000) (hwl : ∀ n ∈ L, n.wraps.length ≤ 16) :
    Calls Tryd.prog 56 #[.slice A L.length c, .slice (some ⟨gl, 0, none⟩) vs.length cap, .int .i64 node] w (FormP w (formL L K ((subF K false f node 1).map (·.1)))) := by
  obtain ⟨n, hn⟩ : ∃ n, w.heap.size = n := ⟨_, rfl⟩
  obtain ⟨m, hm⟩ : ∃ m, L.length = m := ⟨_, rfl⟩
  obtain ⟨nv, hnv⟩ : ∃ nv, vs.length = nv := ⟨_, rfl⟩
  obtain ⟨xs, hxs⟩ : ∃ xs, subF K false f node 1 = xs := ⟨_, rfl⟩
  obtain ⟨W, hW⟩ : ∃ W, allocs w [Obj.cells #[.slice none 0 0] 25 (0, 0), Obj.map #[] 0, Obj.cells #[.map (some (n + 1))] 110 (0, 0), Obj.cells #[.slice none 0 0] 37 (0, 0)] = W := ⟨_, rfl⟩
  have hsz := allocs_size [Obj.cells #[.slice none 0 0] 25 (0, 0), Obj.map #[] 0, Obj.cells #[.map (some (n + 1))] 110 (0, 0), Obj.cells #[.slice none 0 0] 37 (0, 0)] w
  have hFS : ∀ D, FoS n D w [] none 0 W := by
    intro D
    rw [← hW, ← hn]
    have g := allocs_get [Obj.cells #[.slice none 0 0] 25 (0, 0), Obj.map #[] 0, Obj.cells #[.map (some (w.heap.size + 1))] 110 (0, 0), Obj.cells #[.slice none 0 0] 37 (0, 0)] w
    exact ⟨g 1 _ rfl, Box1.of_heap (g 0 _ rfl), Box1.of_heap (g 2 _ rfl), Box1.of_heap (g 3 _ rfl), World.ownsRow_nil _ _ _ _, allocs_below _ _⟩
  rw [hW, hn] at hsz
  simp only [List.length_cons, List.length_nil, Nat.zero_add, Nat.reduceAdd] at hsz
  have hRW := hR.on (by rw [hn]; exact (hFS 0).bl)
  have C := below_walk false node 1 f cap W hRW hvs (fun i => Nat.le_trans (hks i) (by decide)) hD (by decide) (by omega) n (by have := hR.lt; omega) (fun i v k hv hk => by have := ((hR.ow i v hv).lt k hk).2; omega)
  rw [hnv, hxs] at C
  rw [hsz] at C
  have hmm := @run_makeMap Tryd.prog
  have hgl := hR.lt
  have hmem := fun x hx => subF_mem (K := K) (N := vs.length) (up := false) f node 1 hD x hx
  rw [hxs, hnv] at hmem
  rw [hnv, hm] at hvl
  have HVL := hid hvl
  have HME := hid hmem
  simp only [allocs] at hW
  have HW := hid hW
  have HFS := hid hFS
  have HN := hid hn
  have HM := hid hm
  have HNV := hid hnv
  have HXS := hid hxs
  have HKS := hid hks
  have HR := hid hR
  have HA := hid hA
  have HO := hid hok
  have HND := hid hnd
  have HOL := hid hol
  have HWL := hid hwl
  rw [hm, hnv]
  clear hW hFS hn hm hnv hxs hks hD hR hA hok hRW hvs hf hnd hol hmem hwl hvl
  refine (callsIn_wide (n := 6)).1 ?_
  refine callsIn_of_wp_marks Tryd.func56 rfl trivial ?_ rfl
  simp only [Tryd.ntmps56, List.size_toArray, List.length_cons, List.length_nil, Nat.reduceAdd, Nat.reduceSub, Array.replicate_succ, Array.replicate_zero, List.push_toArray, List.append_toArray, List.nil_append, List.cons_append]
  gi_wp2_with fail
  rw [HN.out, HW.out]
  refine ⟨trivial, (callsIn_wide.2 C).mono ?_⟩
  rintro e w4 ⟨hb4, fv, gf, lb, R, rfl, hit, hRR⟩
  obtain rfl := hit.v
  have F4 := (HFS.out w4.heap.size).on HN.out (by rw [hsz]; exact hb4)
  have hs4 := hb4.size
  have HF4 := hid F4
  have HIT := hid hit
  clear C hb4 F4 hit HFS HW hmm
  gi_wp2
  refine wp_rangeIter2 rfl (by decide) (gf := gf) (lb := lb) rfl trivial HIT.out.eg (HIT.out.it _ w4 (Nat.le_refl _) fun _ _ => rfl) (fun _ => rfl)
    (FoI n w4.heap.size w) (fun _ _ _ _ => False) (FoM n none) ?hM0 ?hR0 ?hlt ?hI ?hIx ?h0
    (fun x => { tmps := #[.slice A m c, .slice (some ⟨gl, 0, none⟩) nv cap, .int .i64 node, undef, undef, undef, .pointer (some ⟨n, 0, none⟩), .pointer (some ⟨n + 1 + 1, 0, none⟩), .pointer (some ⟨n + 1 + 1 + 1, 0, none⟩), .int .i64 x.1, undef, undef, undef, undef, undef, undef, .map (some (n + 1)), .slice (some ⟨gl, 0, none⟩) nv cap, .int .i64 node, .func (.func gf) #[] lb, .int .i64 x.1, .int .i64 x.2, undef, undef, undef, undef, undef, undef, undef, undef, undef, undef, undef, undef, undef, undef, undef, undef, undef, undef, undef, undef, undef, undef, undef, undef, undef, undef, undef, undef, undef, undef, undef, undef, undef, undef, undef, undef, undef, undef, undef, undef, undef, undef, undef, undef, undef, undef, undef, undef, undef], defers := [] })
    ?assign ?body ?done ?stop
  case hM0 =>
    rintro k (rfl | rfl | h)
    · omega
    · omega
    · cases h
  case hR0 =>
    intro k hk hm
    rcases hRR k hk with h | h
    · rcases hm with rfl | rfl | h2
      · omega
      · omega
      · cases h2
    · rcases hm with rfl | rfl | h2
      · omega
      · omega
      · cases h2
  case hlt =>
    rintro s M W k ⟨A1, c1, hF, rfl⟩ hm
    have h1 := hF.ro.lt k
    have h2 := lt_of_block hF.mp
    have h3 := hF.b3.lt
    have hs4 := hs4
    rcases hm with rfl | rfl | hm
    · omega
    · omega
    · have := h1 (by rw [own_slice]; exact hm)
      omega
  case hI =>
    rintro s M W W' ⟨A1, c1, hF, rfl⟩ t
    exact ⟨A1, c1, hF.turn HN.out t (by omega), rfl⟩
  case hIx => exact fun _ _ _ _ _ h _ => h
  case h0 => exact ⟨none, 0, HF4.out, rfl⟩
  case assign =>
    intro l x W K hK
    gi_wp2
    exact hK
  case stop => exact fun _ _ _ _ _ h => h.elim
  case body =>
    rintro l pre x M W ⟨A1, c1, hF, rfl⟩ hsp hlt
    have hnp : x.1 ∉ pre.map (·.1) := by
      obtain ⟨tl, ht⟩ := hsp
      have := HND.out
      rw [HXS.out, ← ht, List.map_append, List.map_append, List.nodup_append] at this
      have := this.1
      rw [List.nodup_append] at this
      intro h
      exact this.2.2 _ h _ (by simp) rfl
    have hpl : (pre.map (·.1)).length ≤ 1000000 := by
      have h1 := HOL.out
      rw [HXS.out] at h1
      have := hsp.length_le
      rw [List.length_append] at this
      rw [List.length_map]
      omega
    obtain ⟨O, hO⟩ : ∃ O, pre.map (·.1) = O := ⟨_, rfl⟩
    have hO2 : (pre ++ [x]).map (·.1) = O ++ [x.1] := by rw [List.map_append, hO]; rfl
    rw [hO] at hF hnp hpl
    have hins := ins_at hF.mp hnp
    obtain ⟨V, hV⟩ : ∃ V, W.putObj (n + 1) (.map (entE (O ++ [x.1])) (O.length + 1)) = V := ⟨_, rfl⟩
    rw [hV] at hins
    have sV : V.heap.size = W.heap.size := by rw [← hV]; simp
    have tV : Turn (fun k => k = n + 1) W V := by rw [← hV]; exact Turn.put (C := fun k => k = n + 1) (l := n + 1) rfl _
    have mV : V.heap[n + 1]? = some (.map (entE (O ++ [x.1])) (O.length + 1)) := by rw [← hV]; exact World.putObj_heap_same (lt_of_block hF.mp)
    have kV : KeepsLo W V := by rw [← hV]; exact KeepsLo.put _ hF.mp rfl
    have v0 := hF.b0.turn tV (by omega)
    have v2 := hF.b2.turn tV (by omega)
    have v3 := hF.b3.turn tV (by omega)
    have rV := own_turn hF.ro tV (fun k hk => by omega)
    have lV := below_turn hF.bl (Nat.le_of_eq HN.out.symm) tV (fun k hk => by omega)
    have lt1 := hF.b2.c
    have lt2 := hF.b3.c
    have lt3 := v3.c
    have lt4 := v3.f
    have lt5 := v3.lt
    have hlF := hF.b3.lt
    have HFF := hid hF
    have HSV := hid sV
    have HO1 := hid hO2
    have HV0 := hid v0
    have HV2 := hid v2
    have HV3 := hid v3
    have HRV := hid rV
    have HLV := hid lV
    have HTV := hid tV
    have HMV := hid mV
    have HKV := hid kV
    clear hF hnp hO hO2 hV tV mV kV v0 v2 v3 rV lV hsp sV
    gi_wp2_with (gi_at_builtin; refine append_intIn rfl (.tmp 26) (.tmp 28) rfl (w4.heap.size + 2) _ O x.1 V.heap.size rfl rfl (HRV.out.alloc _) (by simp [go_sem]) ?_ ?_ ?_)
    · omega
    · have := HSV.out
      simp
      omega
    intro v5 w5 hown5 hg5 hblk
    obtain ⟨A5, c5, rfl⟩ := own_shape hown5
    have hsV := HSV.out
    have hrow : ∀ k, (Value.slice A1 O.length c1).ownBlock = some k → w4.heap.size + 2 ≤ k := own_ge HRV.out
    have J0 := hid ((HV0.out.alloc (.cells #[.int .i64 x.1] 3)).grown hg5 fun k hk => by have := hrow k hk; omega)
    have J2 := hid ((HV2.out.alloc (.cells #[.int .i64 x.1] 3)).grown hg5 fun k hk => by have := hrow k hk; omega)
    have J3 := hid ((HV3.out.alloc (.cells #[.int .i64 x.1] 3)).grown hg5 fun k hk => by have := hrow k hk; omega)
    have JL := hid ((HLV.out.alloc (by omega) (.cells #[.int .i64 x.1] 3)).grown hg5 (by simp; omega) (fun k hk => by have := hrow k hk; omega))
    have JM := hid ((hg5.block (n + 1) (by simp; omega) (fun e => by have := hrow (n + 1) e.symm; omega)).trans ((Below.heap_alloc V (.cells #[.int .i64 x.1] 3) (n + 1) (lt_of_block HMV.out)).trans HMV.out))
    have JK := hid (HKV.out.trans (.of ((KeepsOthers.alloc V (.cells #[.int .i64 x.1] 3)).trans (keeps_own (HRV.out.alloc _) hg5))))
    have JT := hid (((HTV.out.wider (C' := FoM n A1) fun k hk => .inl hk).trans (Turn.alloc _ _ _)).trans (Turn.grown hg5 fun k hk => .inr (.inr (by rw [own_slice]; exact hk))))
    have L3 := J3.out
    obtain ⟨c3, f3⟩ := L3
    have l3 := J3.out.lt
    have HO5 := hid hown5
    have HBK := hid hblk
    clear hown5 hg5 hrow lt1 lt2 lt3 lt4 lt5 hins hblk
    gi_wp2
    have hOL : (O ++ [x.1]).length = O.length + 1 := by rw [List.length_append]; rfl
    have hne : n + 1 ≠ n + 1 + 1 + 1 := by omega
    refine ⟨JK.out.trans (.of (KeepsOthers.setCell _ _ _)), FoM n A5, ⟨A5, c5, ?_, rfl⟩, ?_, ?_, ?_⟩
    · rw [HO1.out]
      refine ⟨?_, J0.out.off (by show n ≠ n + 1 + 1 + 1; omega) _, J2.out.off (by show n + 1 + 1 ≠ n + 1 + 1 + 1; omega) _, ?_, ?_, JL.out.setCell (by show n ≤ n + 1 + 1 + 1; omega) _⟩
      · rw [hOL]
        exact (Below.heap_setCell _ _ _ _ hne).trans JM.out
      · rw [hOL]
        exact J3.out.set _
      · have := own_off (g := n + 1 + 1 + 1) (j := 0) (u := .slice A5 (O.length + 1) c5) HO5.out (fun e => by have := own_ge HO5.out _ e; omega)
        rw [hOL]
        exact this
    · have := JT.out.size
      simp [World.setCell]
      omega
    · intro k hk hnm
      have h1 : k ≠ n + 1 + 1 + 1 := fun e => hnm (.inr (.inl e))
      rw [Below.heap_setCell _ _ _ _ h1]
      exact JT.out.block k hk hnm
    · rintro k (rfl | rfl | hk)
      · exact .inl (.inl rfl)
      · exact .inl (.inr (.inl rfl))
      · rcases HBK.out k (by rw [own_slice]; exact hk) with h | h
        · exact .inl (.inr (.inr (by rw [own_slice]; exact h)))
        · exact .inr (by omega)
  case done =>
    rintro xs' M W rfl ⟨A1, c1, hF, rfl⟩ hD
    rename_i hKK
    simp only [Exit.inBlock, Exit.then]
    refine hKK _ _ (wpIn_wide.2 ?_)
    clear hKK
    obtain ⟨b, hb⟩ : ∃ b, W.heap.size = b := ⟨_, rfl⟩
    obtain ⟨O, hO⟩ : ∃ O, xs'.map (·.1) = O := ⟨_, rfl⟩
    obtain ⟨W1, hW1⟩ : ∃ W1, W.alloc (.cells #[.slice none 0 0] 25) = W1 := ⟨_, rfl⟩
    rw [hO] at hF
    have hR0 : FoR b W [] 0 [] none 0 W1 := by
      rw [← hW1, ← hb]
      exact ⟨(Below.refl _ _).alloc (Nat.le_refl _) _, Box1.of_heap (World.alloc_heap_new _ _), rfl, rfl, World.ownsRow_nil _ _ _ _, fun t ht => by cases ht⟩
    have hAO := At.of_own hF.ro
    have c3 := (hF.b3.below hR0.bl (by have := hF.b3.lt; omega)).c
    have HR0 := hid hR0
    have HFF := hid hF
    have HAO := hid hAO
    have HD := hid hD
    have HW1 := hid hW1
    have HO1 := hid hO
    have HB := hid hb
    clear hF hAO hD hW1 hO hb hR0
    go_upto_region 8 with fail
    rw [HB.out, HW1.out]
    go_wp2
    go_loopg [32] O.length (fun gh v32 wr => ∃ (i : Nat) (T : List Tri) (A2 : Option Addr) (c2 : Nat), v32 = .int .i64 (i : Int) ∧ i ≤ O.length ∧ O.length - i ≤ gh ∧ Hid (FoR b W ((O.take i).filterMap (mkN L K O)) i T A2 c2 wr))
    case atStart => exact ⟨0, [], none, 0, rfl, by omega, by omega, HR0⟩
    case round =>
      obtain ⟨i, T, A2, c2, rfl, hi, hgh, HRr⟩ := hrel
      generalize wr = w0 at *
      have hsr := HRr.out.bl.size
      by_cases hlt : i < O.length
      · have hli : (i : Int) < (O.length : Int) := by omega
        have hxO : ∃ x, x ∈ xs' ∧ x.1 = O[i] := by
          have : O[i] ∈ xs'.map (·.1) := by rw [HO1.out]; exact List.getElem_mem hlt
          obtain ⟨x, h1, h2⟩ := List.mem_map.1 this
          exact ⟨x, h1, h2⟩
        obtain ⟨x0, hx0, hx1⟩ := hxO
        have hxr := HME.out x0 hx0
        rw [hx1] at hxr
        obtain ⟨g1, o1, rfl, hg1, q1⟩ := (HAO.out.below (HRr.out.bl.mono (by have := HB.out; omega))).int hlt
        obtain ⟨x, hx⟩ : ∃ x, O[i] = x := ⟨_, rfl⟩
        rw [hx] at hxr q1
        have hxL : x.toNat < L.length := by have := HM.out; have := HVL.out; omega
        have hbw : Below w.heap.size w w0 := (show Below w.heap.size w W by rw [HN.out]; exact HFF.out.bl).trans (HRr.out.bl.mono (by have h1 := HFF.out.bl.size; have := HB.out; omega))
        obtain ⟨g, o, Aw, cw, Ak, ck, rfl, hg, hAw, hAk, hrg, hsw, hsk⟩ := (HA.out.below (hbw.mono hB)).rg hxL
        have hNd := HO.out _ (List.getElem_mem hxL)
        have hNw := HWL.out _ (List.getElem_mem hxL)
        obtain ⟨nd, hnd⟩ : ∃ nd, L[x.toNat]'hxL = nd := ⟨_, rfl⟩
        rw [hnd] at hAw hAk hrg hNd hNw hsw hsk
        have hmk : mkN L K O x = some { nd with kids := (K x.toNat).map (posI O) } := by
          unfold mkN
          rw [List.getElem?_eq_getElem hxL, hnd]
          rfl
        have y0 : g < w0.heap.size := by have := hbw.size; omega
        have y1 : g1 < w0.heap.size := by have := HB.out; omega
        have hix : (x.toNat : Int) = x := by omega
        have hxm : x.toNat < m := by have := HM.out; omega
        have hxv : x.toNat < nv := by have := HVL.out; omega
        have hxw : x < (nv : Int) := hxr.2
        have hxa : 0 ≤ x := hxr.1
        have hxb : x < (m : Int) := by omega
        obtain ⟨W8, hW8⟩ : ∃ W8, w0.alloc (.cells (ndC nd (.slice Aw nd.wraps.length cw) (.slice Ak nd.kids.length ck)).toArray 39) = W8 := ⟨_, rfl⟩
        have hb8 : Below w0.heap.size w0 W8 := by
          rw [← hW8]
          exact (Below.refl _ _).alloc (Nat.le_refl _) _
        have s8 : W8.heap.size = w0.heap.size + 1 := by rw [← hW8]; simp
        have hN8 : NBox w0.heap.size nd (.slice Aw nd.wraps.length cw) (.slice Ak nd.kids.length ck) W8 := by
          rw [← hW8]
          exact World.alloc_heap_new _ _
        have hwB := hbw.size
        have C := CloneW_any nd.wraps Aw cw W8 (hAw.below (hb8.mono (by omega))) hsw (by omega) (by omega)
        obtain ⟨cs, hcs⟩ : ∃ cs, ndC nd (.slice Aw nd.wraps.length cw) (.slice Ak nd.kids.length ck) = cs := ⟨_, rfl⟩
        have hcl : cs.length = 19 := by rw [← hcs]; rfl
        have hc1 : cs.toArray.all (·.oneCell') = true := by rw [← hcs]; exact ndC_one nd
        rw [hcs] at hW8 hrg
        have HRG := hid hrg
        have HC1 := hid hc1
        have HW8 := hid hW8
        have HN8 := hid hN8
        have HB8 := hid hb8
        have HX := hid hx
        have HMK := hid hmk
        have HBW := hid hbw
        have HS8 := hid s8
        have o17 := hN8.cells.2.2.2.2.2.2.2.2.2.2.2.2.2.2.2.2.2.1
        have ln8 := lt_of_block hN8
        clear hx0 hx1 hxr hx hnd hmk hbw hrg hcs hc1 hW8 hb8 hN8 s8 hAw hAk hsw hsk
        go_upto_region 11 with fail
        go_cut [13] from 36 to 39 (fun v13 wx => v13 = .pointer (some ⟨w0.heap.size, 0, none⟩) ∧ wx = W8)
        case first =>
          have hst := store_node w0 cs hcl HC1.out
          go_wp2_with (first
            | (refine wpList_load_mid rfl 39 (.tmp 38) rfl g (o + x.toNat * 19) rfl cs _ HRG.out rfl rfl (by rw [hcl]; exact info_node) ?_))
          go_meet
          exact ⟨rfl, HW8.out⟩
        case rest =>
        obtain ⟨rfl, rfl⟩ := hcut
        generalize wc = W8 at *
        go_wp2_with fail
        with_reducible refine C.mono ?_
        rintro e w9 ⟨vw, rfl, hvw, hb9⟩
        obtain ⟨A5, c5, rfl⟩ := own_shape hvw
        have N9 := HN8.out.on hb9
        have c17 := N9.cells.2.2.2.2.2.2.2.2.2.2.2.2.2.2.2.2.2.1
        have f17 := blk_frozen N9 17
        have N10 := N9.set17 (.slice A5 nd.wraps.length c5)
        have c18 := N10.cells.2.2.2.2.2.2.2.2.2.2.2.2.2.2.2.2.2.2
        have f18 := blk_frozen N10 18
        have l9 := lt_of_block N9
        have l10 := lt_of_block N10
        have N11 := N10.set18 (.slice none 0 0)
        have s9 := hb9.size
        have hv9 := own_off (j := 18) (u := .slice none 0 0) (g := w0.heap.size) (own_off (j := 17) (u := .slice A5 nd.wraps.length c5) (g := w0.heap.size) hvw (fun e => by have := own_ge hvw _ e; have := HS8.out; omega)) (fun e => by have := own_ge hvw _ e; have := HS8.out; omega)
        have B11 : Below w0.heap.size w0 ((w9.setCell ⟨w0.heap.size, 17, none⟩ (.slice A5 nd.wraps.length c5)).setCell ⟨w0.heap.size, 18, none⟩ (.slice none 0 0)) := ((HB8.out.trans (hb9.mono (by have := HS8.out; omega))).setCell (by show w0.heap.size ≤ w0.heap.size; omega) _).setCell (by show w0.heap.size ≤ w0.heap.size; omega) _
        rw [HS8.out] at hv9
        have HB11 := hid B11
        have HN11 := hid N11
        have HV9 := hid hv9
        clear C hvw hb9 N9 N10 N11 hv9 B11 o17 ln8
        go_upto_region 14 with fail
        generalize (w9.setCell ⟨w0.heap.size, 17, none⟩ (.slice A5 nd.wraps.length c5)).setCell ⟨w0.heap.size, 18, none⟩ (.slice none 0 0) = w11 at *
        clear c17 f17 c18 f18 l9 l10
        have R11 := HR.out.on (HBW.out.trans (HB11.out.mono hwB))
        obtain ⟨v, hv⟩ : ∃ v, vs[x.toNat]? = some v := ⟨_, List.getElem?_eq_getElem (by have := HNV.out; omega)⟩
        have hcl := R11.hd.cell hv
        have hkx := HR.out.ow _ _ hv
        have lgl := R11.lt
        obtain ⟨Av, cv, rfl⟩ := own_shape hkx
        have hkl := HKS.out x.toNat
        obtain ⟨KX, hKX⟩ : ∃ KX, K x.toNat = KX := ⟨_, rfl⟩
        rw [hKX] at hcl hkx hkl
        have HAK := hid (At.of_own hkx)
        have HKX := hid hKX
        have H0 := hid (show FoK w0.heap.size w0 nd (.slice A5 nd.wraps.length c5) [] 0 none 0 w11 from ⟨HB11.out, HN11.out, HV9.out, World.ownsRow_nil _ _ _ _⟩)
        have s11 := HB11.out.size
        clear R11 hv hkx hKX
        go_wp2
        go_loopg [50] KX.length (fun gh v50 w2 => ∃ (j : Nat) (A6 : Option Addr) (c6 : Nat), v50 = .int .i64 (j : Int) ∧ j ≤ KX.length ∧ KX.length - j ≤ gh ∧ Hid (FoK w0.heap.size w0 nd (.slice A5 nd.wraps.length c5) ((KX.take j).map (posI O)) j A6 c6 w2))
        case atStart => exact ⟨0, none, 0, rfl, by omega, by omega, H0⟩
        case round =>
          obtain ⟨j, A6, c6, rfl, hj, hgh2, HK2⟩ := hrel
          have s2 := HK2.out.bl.size
          have l18 := lt_of_block HK2.out.nb
          have c18 := HK2.out.nb.cells.2.2.2.2.2.2.2.2.2.2.2.2.2.2.2.2.2.2
          have f18 := blk_frozen HK2.out.nb 18
          by_cases hlt2 : j < KX.length
          · have hlj : (j : Int) < (KX.length : Int) := by omega
            obtain ⟨g2, o2, rfl, hg2, q2⟩ := (HAK.out.below (HBW.out.trans (HK2.out.bl.mono hwB))).int hlt2
            obtain ⟨k, hk⟩ : ∃ k, KX[j] = k := ⟨_, rfl⟩
            rw [hk] at q2
            have y2 : g2 < wr.heap.size := by omega
            have hbW : Below b W wr := HRr.out.bl.trans (HK2.out.bl.mono (by have := HRr.out.bl.size; have := HB.out; omega))
            have m2 := (hbW.block (n + 1) (by have := lt_of_block HFF.out.mp; have := HB.out; omega)).trans HFF.out.mp
            have hlk := look_at k m2
            have b2 := (HFF.out.b2.below hbW (by have := HFF.out.b2.lt; have := HB.out; omega)).c
            have HKj := hid (show (KX.take (j + 1)).map (posI O) = (KX.take j).map (posI O) ++ [posI O k] by
              rw [List.take_succ_eq_append_getElem hlt2, List.map_append, hk]
              rfl)
            have hlen : ((KX.take j).map (posI O)).length = j := by rw [List.length_map, List.length_take]; omega
            obtain ⟨MJ, hMJ⟩ : ∃ MJ, (KX.take j).map (posI O) = MJ := ⟨_, rfl⟩
            rw [hMJ] at hlen HKj
            obtain ⟨p, hp⟩ : ∃ p, posI O k = p := ⟨_, rfl⟩
            rw [hp] at hlk HKj
            subst hlen
            have hk3 := HK2.out
            rw [hMJ] at hk3
            have hok2 := hk3.ok
            have HK3 := hid hk3
            clear hk hbW m2 hk3
            go_wp2_with (first | (at_builtin; refine append_int rfl (.tmp 55) (.tmp 59) rfl (w0.heap.size + 1) _ MJ p wr.heap.size rfl rfl (hok2.alloc _) (by simp [go_sem]) ?_ ?_ ?_))
            · omega
            · first | omega | (simp; omega)
            intro v5 w5 hown5 hg5 _
            obtain ⟨A7, c7, rfl⟩ := own_shape hown5
            have N5 := HK2.out.mid hg5
            have d18 := N5.cells.2.2.2.2.2.2.2.2.2.2.2.2.2.2.2.2.2.2
            have e18 := blk_frozen N5 18
            have l5 := lt_of_block N5
            have hown5 : w5.ownsRow (w0.heap.size + 1) 3 1 (.slice A7 (MJ.length + 1) c7) (MJ.length + 1) (ints (MJ ++ [p])) := by
              first
                | exact hown5
                | (rw [List.length_append] at hown5; exact hown5)
            have HST := hid (HK3.out.step rfl hown5 hg5)
            clear hown5 hg5 hok2 c18 f18 l18 hlk N5 q2
            go_wp2
            go_roundg (KX.length - (MJ.length + 1))
            case measure => omega
            case rel => exact ⟨MJ.length + 1, A7, c7, by go_num, by omega, by omega, by rw [HKj.out]; exact HST⟩
          · have hjj : j = KX.length := by omega
            have q : ¬ (j : Int) < (KX.length : Int) := by omega
            subst hjj
            have hk9 := HK2.out
            rw [List.take_length] at hk9
            have HK9 := hid hk9
            have bx := (HRr.out.bx.below hk9.bl HRr.out.bx.lt)
            have cb := bx.c
            have fb := bx.f
            have lb := bx.lt
            clear hk9 HK2 bx c18 f18
            obtain ⟨cs2, hcs2⟩ : ∃ cs2, ndC nd (.slice A5 nd.wraps.length c5) (.slice A6 KX.length c6) = cs2 := ⟨_, rfl⟩
            have hcl2 : cs2.length = 19 := by rw [← hcs2]; rfl
            have hn2 := HK9.out.nb
            unfold NBox at hn2
            rw [hcs2] at hn2
            have HN2 := hid hn2
            have HCS2 := hid hcs2
            clear hn2 hcs2
            go_upto_region 19 with fail
            have hfo : List.foldl (fun (cs : Array Value) (x : Value × Nat) => cs.setIfInBounds x.snd x.fst) #[Value.int IntKind.u8 0, Value.string { data := #[] }, Value.string { data := #[] }, Value.string { data := #[] }, Value.int IntKind.i64 0, Value.int IntKind.i64 0, Value.int IntKind.i64 0, Value.int IntKind.i64 0, Value.int IntKind.i64 0, Value.int IntKind.i64 0, Value.bool false, Value.int IntKind.i64 0, Value.int IntKind.i64 0, Value.int IntKind.i64 0, Value.int IntKind.i64 0, Value.int IntKind.i64 0, Value.bool false, Value.slice none 0 0, Value.slice none 0 0] cs2.zipIdx = cs2.toArray := fold_set cs2 [Value.int IntKind.u8 0, Value.string { data := #[] }, Value.string { data := #[] }, Value.string { data := #[] }, Value.int IntKind.i64 0, Value.int IntKind.i64 0, Value.int IntKind.i64 0, Value.int IntKind.i64 0, Value.int IntKind.i64 0, Value.int IntKind.i64 0, Value.bool false, Value.int IntKind.i64 0, Value.int IntKind.i64 0, Value.int IntKind.i64 0, Value.int IntKind.i64 0, Value.int IntKind.i64 0, Value.bool false, Value.slice none 0 0, Value.slice none 0 0] 0 (by rw [hcl2]; rfl)
            have HFO := hid hfo
            obtain ⟨i0, hi1, hz0, hz1, hz2⟩ := info_parts info_nd
            have hatn : At (wr.alloc (.cells cs2.toArray 39)).heap.size (wr.alloc (.cells cs2.toArray 39)) (some ⟨wr.heap.size, 0, none⟩) cs2 := by
              intro _
              refine ⟨wr.heap.size, 0, rfl, by simp, fun q v hq => ?_⟩
              rw [blk_cell (World.alloc_heap_new _ _), Nat.zero_add]
              simpa using hq
            have hone : ∀ u ∈ cs2, u.oneCell' = true := by
              intro u hu
              rw [← HCS2.out] at hu
              have := ndC_one nd (Aw := A5) (Ak := A6) (lw := nd.wraps.length) (cw := c5) (lk := KX.length) (ck := c6)
              rw [Array.all_eq_true_iff_forall_mem] at this
              exact this u (by simpa using hu)
            have HAT := hid hatn
            have HONE := hid hone
            have hOl := HOL.out
            have hob := HRr.out.ro
            have hown9 := (own_below' hob HK9.out.bl).alloc (.cells cs2.toArray 39)
            have HOW9 := hid hown9
            have hOO : O.length ≤ 1000000 := by rw [← HO1.out, List.length_map, ← HXS.out]; exact HOL.out
            have hbb : b < wr.heap.size := lb
            clear hfo hatn hone hOl hob hown9
            go_wp2_with (first
              | (refine load_box rfl (.tmp 13) rfl w0.heap.size rfl cs2 hcl2 HN2.out ?_)
              | (at_builtin; rw [HFO.out]; refine append_many Tryd.underlying23 hi1 hz0 hz1 hz2 rfl (by decide) rfl (.tmp 64) (.tmp 66) rfl (b + 1) (.slice A2 i c2) i (cellsT T) (some ⟨wr.heap.size, 0, none⟩) 1 1 _ cs2 rfl rfl (fun h => by cases h) HOW9.out HAT.out (by rw [hcl2]) HONE.out ?_ ?_ (by simp; omega) ?_))
            · unfold maxLen; omega
            · omega
            intro v9 w9 hown9 hg9
            obtain ⟨A9, c9, rfl⟩ := own_shape hown9
            have BX := HRr.out.mid HK9.out hg9
            have d0 := BX.c
            have e0 := BX.f
            have l0 := BX.lt
            have hst := HRr.out.step HB.out HK9.out (by rw [List.length_map]) (by rw [HCS2.out]; exact hown9) hg9
            have hts : (O.take (i + 1)).filterMap (mkN L K O) = (O.take i).filterMap (mkN L K O) ++ [{ nd with kids := KX.map (posI O) }] := by
              rw [List.take_succ_eq_append_getElem hlt, List.filterMap_append, HX.out]
              have := HMK.out
              rw [HKX.out] at this
              simp [List.filterMap, this]
            rw [← hts] at hst
            have HST := hid hst
            clear hst hts hown9 hg9 BX cb fb lb
            go_wp2
            go_roundg (O.length - (i + 1))
            case measure => omega
            case rel => exact ⟨i + 1, _, A9, c9, by go_num, by omega, by omega, HST⟩
      · have hin : i = O.length := by omega
        have q : ¬ (i : Int) < (O.length : Int) := by omega
        subst hin
        have HQ := HRr.out
        rw [List.take_length] at HQ
        have cb := HQ.bx.c
        have b0W := HFF.out.b0.below HQ.bl (by have := HFF.out.b0.lt; have := HB.out; omega)
        have cz := b0W.c
        have fz := b0W.f
        have lz := b0W.lt
        have HQQ := hid HQ
        have hbl0 := HFF.out.bl.size
        have hDb : w4.heap.size < W.heap.size := lt_of_block HD.out
        have hD0 := (HQ.bl.block w4.heap.size (by have := HB.out; omega)).trans HD.out
        have HD0 := hid hD0
        clear HQ b0W hD0
        go_wp2
        refine ⟨by simp, .inl ⟨_, _, rfl, run_takeDeferred (w := w0.setCell ⟨n, 0, none⟩ (.slice A2 O.length c2)) (ds := []) ?_, ?_⟩⟩
        · rw [Below.heap_setCell _ _ _ _ (by show w4.heap.size ≠ n; omega)]
          exact HD0.out
        · have hsz0 := HFF.out.b3.lt
          have hwW : w.heap.size ≤ W.heap.size := by
            have h1 := HFF.out.bl.size
            omega
          have t1 : Turn (fun k => k = n ∨ k = w4.heap.size) w0 ((w0.setCell ⟨n, 0, none⟩ (.slice A2 O.length c2)).putObj w4.heap.size (.deferred none)) :=
            (Turn.set (p := ⟨n, 0, none⟩) (.inl rfl) _).trans (Turn.put (.inr rfl) _)
          have hR9 : (formL L K ((subF K false f node 1).map (·.1))).length = O.length := by
            have h1 := HQQ.out.ts
            have h2 := HQQ.out.le
            rw [HXS.out, HO1.out]
            unfold formL
            rw [← h1, List.length_map, h2]
          have hSP : SpecO (b + 1) w0 A2 c2 (formL L K ((subF K false f node 1).map (·.1))) := by
            refine ⟨T, ?_, by rw [hR9]; exact HQQ.out.ro, HQQ.out.tr⟩
            rw [HXS.out, HO1.out]
            exact HQQ.out.ts
          have hSP2 := hSP.turn t1 (fun k hk => by have := HB.out; omega)
          have hbE : Below n w ((w0.setCell ⟨n, 0, none⟩ (.slice A2 O.length c2)).putObj w4.heap.size (.deferred none)) :=
            below_turn (HFF.out.bl.trans (HQQ.out.bl.mono (by have := HB.out; omega))) (Nat.le_of_eq HN.out.symm) t1 (fun k hk => by omega)
          have p0 := (Box1.turn (C := fun k => k = w4.heap.size) ((HFF.out.b0.below HQQ.out.bl (by have := HFF.out.b0.lt; have := HB.out; omega)).set (.slice A2 O.length c2)) (Turn.put (C := fun k => k = w4.heap.size) (l := w4.heap.size) rfl (.deferred none)) (by omega)).c
          have HS2 := hid (hSP2.mono (show n ≤ b + 1 by have := HB.out; omega))
          have HBE := hid hbE
          have HR9 := hid hR9
          clear hSP hSP2 hbE t1 hR9
          generalize (w0.setCell ⟨n, 0, none⟩ (.slice A2 O.length c2)).putObj w4.heap.size (.deferred none) = E at *
          refine ⟨.agg #[.slice A2 O.length c2], by simp [results, Tryd.results56, go_sem, *], A2, c2, by rw [HR9.out], ?_, ?_⟩
          · rw [HN.out]
            exact HS2.out
          · rw [HN.out]
            exact HBE.out
end Go.Proofs.YtnkojoajcdhngaaDoor
