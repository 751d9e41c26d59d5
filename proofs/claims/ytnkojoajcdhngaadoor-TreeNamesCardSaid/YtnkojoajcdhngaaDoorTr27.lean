/- Layer 8: slices.Insert of one number (the shelf's). -/
import Derived.Test.YtnkojoajcdhngaaDoorTrAe
import Derived.Test.YtnkojoajcdhngaaDoorRfMem
import Derived.Shelf.Spec.SlicesInsert
import Derived.Shelf.Spec.SlicesInsertGrow
import Derived.Ground.Names2Prog
namespace Go.Proofs.YtnkojoajcdhngaaDoor
set_option linter.unusedVariables false
set_option linter.unusedSimpArgs false
set_option maxRecDepth 100000
open Go.RowKit Go.Shelf Go.Lib
def Tryd.laysIns_ren : Go.Shelf.Ren := ⟨fun | 21 => 54 | 27 => 90 | 28 => 91 | 35 => 109 | 39 => 76 | n => n, fun | 22 => 37 | 3 => 3 | 4 => 4 | 0 => 0 | n => n, fun | n => n⟩
theorem Tryd.laysIns : Go.Proofs.Lays2.n21 Tryd.prog Tryd.laysIns_ren := {
  mixed := by kernel_rfl
  f21 := Tryd.func54.trans (congrArg some (by kernel_rfl))
  f27 := Tryd.func90.trans (congrArg some (by kernel_rfl))
  f28 := Tryd.func91.trans (congrArg some (by kernel_rfl))
  f35 := Tryd.func109.trans (congrArg some (by kernel_rfl))
  f39 := Tryd.func76.trans (congrArg some (by kernel_rfl))
  t0 := Tryd.underlying0
  a0 := Tryd.isAgg0
  z0 := Tryd.sizeOf0
  v0 := Tryd.zeroValue0
  t3 := Tryd.underlying3
  a3 := Tryd.isAgg3
  z3 := Tryd.sizeOf3
  v3 := Tryd.zeroValue3
  t4 := Tryd.underlying4
  a4 := Tryd.isAgg4
  z4 := Tryd.sizeOf4
  v4 := Tryd.zeroValue4
  t22 := Tryd.underlying37
  a22 := Tryd.isAgg37
  z22 := Tryd.sizeOf37
  v22 := Tryd.zeroValue37
  i3 := by kernel_rfl }
set_option maxHeartbeats 4000000

theorem heap_setCells (b : Nat) (t : TypeId) : ∀ (vs : List Value) (o : Nat) (w : World) (cur : Array Value), w.heap[b]? = some (.cells cur t (0, 0)) → o + vs.length ≤ cur.size →
    ∃ cur', (w.setCells b o vs).heap[b]? = some (.cells cur' t (0, 0)) ∧ cur'.size = cur.size ∧ cur'.toList = cur.toList.take o ++ (vs ++ cur.toList.drop (o + vs.length))
  | [], o, w, cur, h, _ => ⟨cur, h, rfl, by simp⟩
  | v :: r, o, w, cur, h, hl => by
    simp only [List.length_cons] at hl
    obtain ⟨cur', h1, h2, h3⟩ := heap_setCells b t r (o + 1) (w.setCell ⟨b, o, none⟩ v) (cur.setIfInBounds o v) (store_in h) (by simp; omega)
    refine ⟨cur', h1, by rw [h2]; simp, ?_⟩
    have ho : o < cur.toList.length := by simp; omega
    rw [h3, Array.toList_setIfInBounds, List.take_succ_eq_append_getElem (by rw [List.length_set]; exact ho), List.getElem_set_self, List.take_set_of_le (Nat.le_refl _), List.drop_set_of_lt (by omega), List.append_assoc]
    simp only [List.singleton_append, List.length_cons]
    rw [show o + (r.length + 1) = o + 1 + r.length by omega]
    rfl
theorem turn_setCells (b : Nat) : ∀ (vs : List Value) (o : Nat) (w : World), Turn (fun k => k = b) w (w.setCells b o vs)
  | [], _, w => Turn.refl _ w
  | v :: r, o, w => (Turn.set (C := fun k => k = b) (p := ⟨b, o, none⟩) rfl v).trans (turn_setCells b r (o + 1) _)
def InsP (w : World) (base : Nat) (v : Value) (ys : List Int) (e : Ending) (w' : World) : Prop := ∃ v', e = .returned v' ∧ w'.ownsRow base 3 1 v' ys.length (ints ys) ∧ (∀ k, v'.ownBlock = some k → v.ownBlock = some k ∨ w.heap.size ≤ k) ∧ w.grownBy w' v.ownBlock
theorem Turn.grownBy {b : Nat} {w w' : World} (h : Turn (fun k => k = b) w w') {row : Option Nat} (hr : row = some b ∨ w.heap.size ≤ b) : w.grownBy w' row :=
  ⟨h.os, h.tape, h.output, h.size, fun k hk hne => h.block k hk (fun e => by
    subst e
    rcases hr with hr | hr
    · exact hne hr.symm
    · omega)⟩
theorem ins_shift {α : Type} (L0 I L1 L2 : List α) (x : α) (n i : Nat) (h0 : L0.take n = I) (hn : I.length = n) (hi : i < n) (h1 : L1 = L0.take (i + 1) ++ (I.drop i ++ L0.drop (i + 1 + (n - i)))) (h2 : L2 = L1.take i ++ ([x] ++ L1.drop (i + 1))) : L2.take (n + 1) = I.take i ++ x :: I.drop i := by
  have hl : n ≤ L0.length := by
    rw [← h0, List.length_take] at hn
    omega
  have e1 : L1.take i = I.take i := by
    rw [h1, List.take_append_of_le_length (by rw [List.length_take]; omega), List.take_take, ← h0, List.take_take]
    congr 1
    omega
  have e2 : L1.drop (i + 1) = I.drop i ++ L0.drop (i + 1 + (n - i)) := by
    rw [h1, List.drop_left' (by rw [List.length_take]; omega)]
  rw [h2, e1, e2, show I.take i ++ ([x] ++ (I.drop i ++ L0.drop (i + 1 + (n - i)))) = (I.take i ++ x :: I.drop i) ++ L0.drop (i + 1 + (n - i)) by simp]
  exact List.take_left' (by simp; omega)
theorem ins_grow {α : Type} (C0 I L1 L2 : List α) (x : α) (n i : Nat) (h0 : C0.take i = I.take i) (hn : I.length = n) (hi : i ≤ n) (hc : n + 1 ≤ C0.length) (h1 : L1 = C0.take i ++ ([x] ++ C0.drop (i + 1))) (h2 : L2 = L1.take (i + 1) ++ (I.drop i ++ L1.drop (i + 1 + (n - i)))) : L2.take (n + 1) = I.take i ++ x :: I.drop i := by
  have e1 : L1.take (i + 1) = I.take i ++ [x] := by
    rw [h1, h0, ← List.append_assoc]
    exact List.take_left' (by simp; omega)
  rw [h2, e1, show I.take i ++ [x] ++ (I.drop i ++ L1.drop (i + 1 + (n - i))) = (I.take i ++ x :: I.drop i) ++ L1.drop (i + 1 + (n - i)) by simp]
  exact List.take_left' (by simp; omega)
theorem Insert_any (v : Value) (base : Nat) (xs : List Int) (i : Nat) (x : Int) (vb : Nat) (w : World) (h : w.ownsRow base 3 1 v xs.length (ints xs)) (hi : i ≤ xs.length) (hvb : w.heap[vb]? = some (.cells #[.int .i64 x] 3 (0, 0))) (hne : v.ownBlock ≠ some vb) (hl : xs.length ≤ 1000000) (hbase : base ≤ w.heap.size) :
    Calls Tryd.prog 54 #[v, .int .i64 (i : Int), .slice (some ⟨vb, 0, none⟩) 1 1] w (InsP w base v (xs.take i ++ x :: xs.drop i)) := by
  have hvs : ∀ (j : Nat) (u : Value), [Value.int .i64 x][j]? = some u → w.cell? ⟨vb, 0 + j, none⟩ = some u := fun j u hj => by
    rw [Nat.zero_add, blk_cell hvb]
    simpa using hj
  have e3 : Tryd.laysIns_ren.t 3 = 3 := rfl
  have hlen : (xs.take i ++ x :: xs.drop i).length = xs.length + 1 := by simp; omega
  have hints : ints (xs.take i ++ x :: xs.drop i) = (ints xs).take i ++ Value.int .i64 x :: (ints xs).drop i := by simp [ints]
  rcases h.2 with ⟨rfl, h0⟩ | ⟨g, cap, cur, rfl, hb, hh, hn, hm, hs, ht⟩
  · have hx : xs = [] := List.eq_nil_of_length_eq_zero h0
    subst hx
    have hi0 : i = 0 := by simpa using hi
    subst hi0
    have C : Calls Tryd.prog 54 #[.slice none 0 0, .int .i64 ((0 : Nat) : Int), .slice (some ⟨vb, 0, none⟩) 1 1] w _ :=
      Any2.slices_Insert_int_end_grow Tryd.laysIns none 0 0 vb 0 1 1 [] [.int .i64 x] w (by decide) (by decide) (by decide) (by decide) rfl rfl (fun _ => rfl) (fun a h => by cases h) hvs (by simp [Value.oneCell'])
    refine C.mono ?_
    rintro e w' ⟨rfl, rfl⟩
    have hge := grownCap_ge w (0 + 1) 0 3
    have hmx := grownCap_le_maxLen w (0 + 1) 0 3 (by decide)
    refine ⟨_, rfl, ⟨rfl, .inr ⟨w.heap.size, _, _, rfl, hbase, World.alloc_heap_new _ _, hge, hmx, ?_, ?_⟩⟩, fun k hk => .inr ?_, ?_⟩
    · simp only [List.nil_append, Array.size_append, List.size_toArray, size_zeroCells]
      simp only [Value.cells, List.size_toArray, List.length_cons, List.length_nil, e3]
      omega
    · simp [ints]
    · injection hk with hk
      simp only at hk
      omega
    · exact Turn.grownBy (b := w.heap.size) ((Turn.of_below (Below.refl _ w).drew).trans (Turn.alloc _ _ _)) (.inr (Nat.le_refl _))
  · have hgl := lt_of_block hh
    have hvl := lt_of_block hvb
    have hvg : vb ≠ g := fun e => hne (by rw [e]; rfl)
    have hcl : (ints xs).length = xs.length := ints_len xs
    have hcap63 : cap ≤ 9223372036854775807 := by unfold maxLen at hm; omega
    have hcur : cur.size = cap := by omega
    rw [Nat.mul_one] at ht
    have hcs : ∀ (j : Nat) (u : Value), (ints xs)[j]? = some u → w.cell? ⟨g, 0 + j, none⟩ = some u := fun j u hj => by
      rw [Nat.zero_add, blk_cell hh]
      rw [← ht, List.getElem?_take] at hj
      split at hj
      · simpa using hj
      · cases hj
    have hsome : ∀ j, j < cap → (w.cell? ⟨g, 0 + j, none⟩).isSome = true := fun j hj => by
      rw [Nat.zero_add, blk_cell hh]
      simp
      omega
    have t1 : (ints xs).take xs.length = ints xs := List.take_of_length_le (by rw [hcl]; exact Nat.le_refl _)
    have t2 : (ints xs).drop xs.length = [] := List.drop_eq_nil_of_le (by rw [hcl]; exact Nat.le_refl _)
    have h1x : ∀ u ∈ [Value.int .i64 x], u.oneCell' = true := by simp [Value.oneCell']
    by_cases hroom : xs.length + 1 ≤ cap
    · have fin : ∀ w', Turn (fun k => k = g) w w' → (∃ cur' : Array Value, w'.heap[g]? = some (.cells cur' 3 (0, 0)) ∧ cur'.size = cap ∧ cur'.toList.take (xs.length + 1) = (ints xs).take i ++ Value.int .i64 x :: (ints xs).drop i) →
          InsP w base (.slice (some ⟨g, 0, none⟩) xs.length cap) (xs.take i ++ x :: xs.drop i) (.returned (.slice (some ⟨g, 0, none⟩) (xs.length + 1) cap)) w' := fun w' t ⟨cur', h1, h2, h3⟩ =>
        ⟨_, rfl, ⟨by rw [ints_len, hlen, Nat.mul_one], .inr ⟨g, cap, cur', by rw [hlen], hb, h1, by omega, hm, by omega, by rw [hlen, Nat.mul_one, h3, hints]⟩⟩, fun k hk => .inl hk, t.grownBy (.inl rfl)⟩
      by_cases hin : i < xs.length
      · have C : Calls Tryd.prog 54 #[.slice (some ⟨g, 0, none⟩) xs.length cap, .int .i64 (i : Int), .slice (some ⟨vb, 0, none⟩) 1 1] w _ :=
          Any2.slices_Insert_int_shift Tryd.laysIns g 0 xs.length cap i vb 0 1 1 (ints xs) [.int .i64 x] w hin (by decide) hroom hcap63 hvg hcl rfl hcs (fun j hj => hsome j (by omega)) (fun j _ => blk_frozen hh _) hvs (ints_one xs) h1x
            3 3 1 cap (by simp [World.shape?, hvb]) (by simp [World.shape?, hh, hcur]) (by omega) (blk_frozen hvb _) (blk_frozen hvb _)
        refine C.mono ?_
        rintro e w' ⟨rfl, rfl⟩
        refine fin _ (((Turn.of_below (Below.refl _ w).drew).trans (turn_setCells g _ _ _)).trans (turn_setCells g _ _ _)) ?_
        obtain ⟨c1, a1, a2, a3⟩ := heap_setCells g 3 ((ints xs).drop i) (0 + (i + 1)) w.drew cur hh (by rw [List.length_drop, hcl]; omega)
        obtain ⟨c2, b1, b2, b3⟩ := heap_setCells g 3 [.int .i64 x] (0 + i) _ c1 a1 (by simp; omega)
        refine ⟨c2, b1, by omega, ?_⟩
        rw [Nat.zero_add] at a3 b3
        rw [List.length_drop, hcl] at a3
        exact ins_shift cur.toList (ints xs) c1.toList c2.toList _ xs.length i ht hcl hin a3 b3
      · have hie : i = xs.length := by omega
        subst hie
        have C : Calls Tryd.prog 54 #[.slice (some ⟨g, 0, none⟩) xs.length cap, .int .i64 (xs.length : Int), .slice (some ⟨vb, 0, none⟩) 1 1] w _ :=
          Any2.slices_Insert_int_end_room Tryd.laysIns g 0 xs.length cap vb 0 1 1 [.int .i64 x] w (by decide) hroom hcap63 rfl (fun j hj => by rw [Nat.add_assoc]; exact hsome _ (by omega)) (fun j _ => blk_frozen hh _) hvs h1x
        refine C.mono ?_
        rintro e w' ⟨rfl, rfl⟩
        refine fin _ (turn_setCells g _ _ _) ?_
        obtain ⟨c2, b1, b2, b3⟩ := heap_setCells g 3 [.int .i64 x] (0 + xs.length) w cur hh (by simp; omega)
        refine ⟨c2, b1, by omega, ?_⟩
        rw [Nat.zero_add] at b3
        rw [t1, t2, b3, ht, ← List.append_assoc]
        exact List.take_left' (by rw [List.length_append, hcl]; rfl)
    · have hge := grownCap_ge w (xs.length + 1) cap 3
      have hmx := grownCap_le_maxLen w (xs.length + 1) cap 3 (by unfold maxLen; omega)
      have hroom2 : cap < xs.length + 1 := by omega
      have fin : ∀ w', Turn (fun k => k = w.heap.size) w w' → (∃ cur' : Array Value, w'.heap[w.heap.size]? = some (.cells cur' 3 (0, 0)) ∧ cur'.size = grownCap w (xs.length + 1) cap 3 ∧ cur'.toList.take (xs.length + 1) = (ints xs).take i ++ Value.int .i64 x :: (ints xs).drop i) →
          InsP w base (.slice (some ⟨g, 0, none⟩) xs.length cap) (xs.take i ++ x :: xs.drop i) (.returned (.slice (some ⟨w.heap.size, 0, none⟩) (xs.length + 1) (grownCap w (xs.length + 1) cap 3))) w' := fun w' t ⟨cur', h1, h2, h3⟩ =>
        ⟨_, rfl, ⟨by rw [ints_len, hlen, Nat.mul_one], .inr ⟨w.heap.size, _, cur', by rw [hlen], hbase, h1, by omega, hmx, by omega, by rw [hlen, Nat.mul_one, h3, hints]⟩⟩, fun k hk => .inr (by
          injection hk with hk
          simp only at hk
          omega), t.grownBy (.inr (Nat.le_refl _))⟩
      by_cases hin : i < xs.length
      · have C : Calls Tryd.prog 54 #[.slice (some ⟨g, 0, none⟩) xs.length cap, .int .i64 (i : Int), .slice (some ⟨vb, 0, none⟩) 1 1] w _ :=
          Any2.slices_Insert_int_grow Tryd.laysIns g 0 xs.length cap i vb 0 1 1 (ints xs) [.int .i64 x] w hin (by decide) hn hroom2 (by omega) hcl rfl hcs hvs (ints_one xs) h1x
        refine C.mono ?_
        rintro e w' ⟨rfl, rfl⟩
        rw [e3]
        have sz : ∀ z : Array Value, z = (Value.int .i64 0).cells → z.size = 1 := fun z hz => by rw [hz]; simp [Value.cells]
        obtain ⟨C0, hC0⟩ : ∃ C0, ((ints xs).take i).toArray ++ Builtin.zeroCells (Value.int .i64 0).cells (xs.length + 1 - i) ++ Builtin.zeroCells (Value.int .i64 0).cells (grownCap w (xs.length + 1) cap 3 - (xs.length + 1)) = C0 := ⟨_, rfl⟩
        have hC0s : C0.size = grownCap w (xs.length + 1) cap 3 := by
          rw [← hC0]
          simp only [Array.size_append, List.size_toArray, size_zeroCells, List.length_take, hcl]
          simp only [Value.cells, List.size_toArray, List.length_cons, List.length_nil]
          omega
        have hC0t : C0.toList.take i = (ints xs).take i := by
          rw [← hC0, Array.toList_append, Array.toList_append, List.append_assoc]
          exact List.take_left' (by simp [hcl]; omega)
        rw [hC0]
        have tA : Turn (fun k => k = w.heap.size) w (w.alloc (.cells C0 3)) := Turn.alloc _ _ _
        refine fin _ (((((tA.trans (Turn.of_below (Below.refl _ _).drew)).trans (turn_setCells w.heap.size _ _ _)).trans (Turn.of_below (Below.refl _ _).drew)).trans (turn_setCells w.heap.size _ _ _))) ?_
        obtain ⟨c1, a1, a2, a3⟩ := heap_setCells w.heap.size 3 [.int .i64 x] i (w.alloc (.cells C0 3)).drew C0 (World.alloc_heap_new _ _) (by simp; omega)
        obtain ⟨c2, b1, b2, b3⟩ := heap_setCells w.heap.size 3 ((ints xs).drop i) (i + 1) (((w.alloc (.cells C0 3)).drew.setCells w.heap.size i [.int .i64 x]).drew) c1 a1 (by rw [List.length_drop, hcl]; omega)
        refine ⟨c2, b1, by omega, ?_⟩
        rw [List.length_drop, hcl] at b3
        exact ins_grow C0.toList (ints xs) c1.toList c2.toList _ xs.length i hC0t hcl (by omega) (by simp; omega) a3 b3
      · have hie : i = xs.length := by omega
        subst hie
        have C : Calls Tryd.prog 54 #[.slice (some ⟨g, 0, none⟩) xs.length cap, .int .i64 (xs.length : Int), .slice (some ⟨vb, 0, none⟩) 1 1] w _ :=
          Any2.slices_Insert_int_end_grow Tryd.laysIns (some ⟨g, 0, none⟩) xs.length cap vb 0 1 1 (ints xs) [.int .i64 x] w (by decide) hn hroom2 (by omega) hcl rfl (fun h => by cases h) (fun a ha j u hj => by
            cases ha
            have := hcs j u hj
            rw [Nat.zero_add] at this
            by_cases h0 : j = 0
            · subst h0
              simpa [Addr.add] using this
            · simpa [Addr.add, h0] using this) hvs h1x
        refine C.mono ?_
        rintro e w' ⟨rfl, rfl⟩
        rw [e3]
        refine fin _ ((Turn.of_below (Below.refl _ w).drew).trans (Turn.alloc _ _ _)) ⟨_, World.alloc_heap_new _ _, ?_, ?_⟩
        · simp only [Array.size_append, List.size_toArray, size_zeroCells, List.length_append, hcl]
          simp only [Value.cells, List.size_toArray, List.length_cons, List.length_nil]
          omega
        · rw [t1, t2, Array.toList_append]
          exact List.take_left' (by rw [List.length_append, hcl]; rfl)
end Go.Proofs.YtnkojoajcdhngaaDoor
