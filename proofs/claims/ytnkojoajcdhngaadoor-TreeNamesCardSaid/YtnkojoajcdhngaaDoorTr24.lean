/- Layer 8: DeleteFunc (the shelf's); taken. -/
import Derived.Test.YtnkojoajcdhngaaDoorTrAe
import Derived.Shelf.SlicesE.DeleteFunc
import Derived.Ground.SlgfProg
import Derived.Shelf.SlGeneric
namespace Go.Proofs.YtnkojoajcdhngaaDoor
set_option linter.unusedVariables false
set_option linter.unusedSimpArgs false
set_option maxRecDepth 100000
open Go.RowKit Go.Shelf Go.Lib
attribute [local go_sem] Oper.semAt_some
set_option maxRecDepth 100000
set_option maxHeartbeats 16000000
def Tryd.laysDel_ren : Go.Shelf.Ren := ⟨fun | 10 => 94 | 6 => 78 | n => n, fun | 22 => 37 | 23 => 3 | 25 => 103 | 3 => 3 | 4 => 4 | 0 => 0 | n => n, fun | n => n⟩
theorem Tryd.laysDel : Go.Proofs.SlLaysH.n10 Tryd.prog Tryd.laysDel_ren := {
  mixed := by kernel_rfl
  f6 := ⟨"slices.IndexFunc[[]int,int]", by decide, Tryd.func78.trans (congrArg some (by kernel_rfl))⟩
  f10 := ⟨"slices.DeleteFunc[[]int,int]", by decide, Tryd.func94.trans (congrArg some (by kernel_rfl))⟩
  t0 := Tryd.underlying0
  a0 := Tryd.isAgg0
  z0 := Tryd.sizeOf0
  v0 := Tryd.zeroValue0
  t3 := Tryd.underlying3
  a3 := Tryd.isAgg3
  z3 := Tryd.sizeOf3
  v3 := Tryd.zeroValue3
  t4 := Tryd.underlying4
  a4 := Tryd.isAgg4
  z4 := Tryd.sizeOf4
  v4 := Tryd.zeroValue4
  t22 := Tryd.underlying37
  a22 := Tryd.isAgg37
  z22 := Tryd.sizeOf37
  v22 := Tryd.zeroValue37
  a23 := Tryd.isAgg3
  z23 := Tryd.sizeOf3
  t25 := Tryd.underlying103
  a25 := Tryd.isAgg103
  z25 := Tryd.sizeOf103
  v25 := Tryd.zeroValue103 }
theorem taken1_any (k node : Int) (b : Nat) (w : World) (hb : w.cell? ⟨b, 0, none⟩ = some (.int .i64 node)) :
    Calls Tryd.prog 95 #[.int .i64 k, .pointer (some ⟨b, 0, none⟩)] w fun e w' => e = .returned (.bool (k == node)) ∧ w' = w := by
  go_enter Tryd.func95, Tryd.ntmps95
  go_wp2
  go_ret
  exact ⟨rfl, rfl⟩
theorem index_nil (f : Value) (w : World) : Calls Tryd.prog 78 #[.slice none 0 0, f] w fun e w' => e = .returned (.int .i64 (-1)) ∧ w' = w := by
  go_enter Tryd.func78, Tryd.ntmps78
  go_wp2
  go_loopg [8] 0 (fun gh v8 wr => v8 = .int .i64 0 ∧ wr = w)
  case atStart => exact ⟨rfl, rfl⟩
  case round =>
    obtain ⟨rfl, rfl⟩ := hrel
    go_wp2
    go_ret
    exact ⟨rfl, rfl⟩
theorem delete_nil (f : Value) (w : World) : Calls Tryd.prog 94 #[.slice none 0 0, f] w fun e w' => e = .returned (.slice none 0 0) ∧ w' = w := by
  go_enter Tryd.func94, Tryd.ntmps94
  go_wp2_with fail
  refine (index_nil f w).mono ?_
  rintro e w' ⟨rfl, rfl⟩
  go_wp2
  go_ret
  exact ⟨rfl, rfl⟩
theorem grown_putRow {enc : Int → Value} {w : World} {g q : Nat} {d : Array Int} : w.grownBy (Sort.putRow enc (Sort.ahead w q) g 0 d) (some g) :=
  ⟨rfl, rfl, rfl, by simp [Sort.putRow, Sort.mapBlock, Sort.ahead], fun k hk hne => by
    simp only [Sort.putRow, Sort.mapBlock, Sort.ahead, Array.getElem?_modify]
    rw [if_neg (fun e => hne (by rw [e]))]⟩
theorem delete_any (v : Value) (n base : Nat) (xs : List Int) (node : Int) (b : Nat) (w : World) (h : w.ownsRow base 3 1 v n (ints xs)) (hb : w.cell? ⟨b, 0, none⟩ = some (.int .i64 node)) (hbv : v.ownBlock ≠ some b) (hn2 : n ≤ 1000000) :
    Calls Tryd.prog 94 #[v, .func (.func 95) #[] #[.pointer (some ⟨b, 0, none⟩)]] w fun e w' => ∃ v', e = .returned v' ∧ w'.ownsRow base 3 1 v' (xs.filter fun x => !(x == node)).length (ints (xs.filter fun x => !(x == node))) ∧ (∀ k, v'.ownBlock = some k → v.ownBlock = some k) ∧ w.grownBy w' v.ownBlock := by
  by_cases hv : v = .slice none 0 0
  · subst hv
    rcases h.2 with ⟨_, h2⟩ | ⟨g, cap, cur, h2, _⟩
    · have hx : xs = [] := List.eq_nil_of_length_eq_zero (by have := h.1; rw [ints_len] at this; omega)
      subst hx
      refine (delete_nil _ w).mono ?_
      rintro e w' ⟨rfl, rfl⟩
      exact ⟨_, rfl, World.ownsRow_nil _ _ _ _, fun k hk => hk, World.grownBy.refl _ _⟩
    · cases h2
  · have h' : w.ownsRow base 3 1 v n (xs.map (Value.int .i64)) := h
    obtain ⟨g, cap, rfl, hbg, hgl, hnc, hcm, hl, hH⟩ := holds_of_ownsRow h' hv
    subst hl
    have hbl : b < w.heap.size := World.block_lt_of_cell? _ _ hb
    have hgb : g ≠ b := fun e => hbv (by rw [e]; rfl)
    have eg : ∀ (args : Array Value) (w : World), (callFunc 95 args).run Tryd.prog w = .ok (.enter 95 args) w := enters_of Tryd.func95 (by kernel_rfl) rfl
    have C : Calls Tryd.prog 94 #[.slice (some ⟨g, 0, none⟩) xs.toArray.size cap, .func (.func 95) #[] #[.pointer (some ⟨b, 0, none⟩)]] w _ :=
      AnyE.slices_DeleteFunc Tryd.laysDel (Value.int .i64) (fun x => rfl) (fun x => x == node) 95 #[.pointer (some ⟨b, 0, none⟩)] eg 0 (fun w => by simp [go_sem, Tryd.laysDel_ren]) g 0 cap xs.toArray w
        (fun W x hb' => (taken1_any x node b W (by rw [hb'.cell (p := ⟨b, 0, none⟩) hbl]; exact hb)).mono fun e w' ⟨h1, h2⟩ => ⟨h1, 0, h2⟩)
        (fun q os dk x hs => (taken1_any x node b _ (by
          have h0 : (sortWorld (Value.int .i64) w g 0 q dk os).heap[b]? = w.heap[b]? := by
            unfold sortWorld
            rw [Sort.heap_grow_old _ _ (by simpa [Sort.putRow, Sort.mapBlock, Sort.ahead] using hbl)]
            exact (grown_putRow (enc := Value.int .i64) (g := g) (q := q) (d := dk)).block b hbl (by intro e; injection e with e; exact hgb e.symm)
          exact (World.cell?_of_block (a := ⟨b, 0, none⟩) h0).trans hb)).mono fun e w' ⟨h1, h2⟩ => ⟨h1, 0, h2⟩)
        hH (by simp; omega) (by simpa using hnc)
    have e1 : xs.toArray.size = xs.length := by simp
    rw [e1] at C
    refine C.mono ?_
    rintro e w' ⟨rfl, q, rfl⟩
    have hle : (xs.filter fun x => !(x == node)).length ≤ xs.length := List.length_filter_le _ _
    have := ownsRow_putRow (q := q) (k := (xs.filter fun x => !(x == node)).length) (ys := (xs.filter fun x => !(x == node)) ++ List.replicate (xs.length - (xs.filter fun x => !(x == node)).length) 0) h' (by simp only [List.length_append, List.length_replicate]; omega) hle
    rw [List.take_left] at this
    exact ⟨_, rfl, this, fun k hk => hk, grown_putRow⟩
end Go.Proofs.YtnkojoajcdhngaaDoor
