/- Layer 21: the law's own 'spoil': keys are written over, and grown. -/
import Derived.Test.YtddigbhijfpmkaaDoorKeN
import Derived.Test.YtddigbhijfpmkaaDoorKeV
namespace Go.Proofs.YtddigbhijfpmkaaDoor
set_option linter.unusedVariables false
set_option linter.unusedSimpArgs false
set_option maxRecDepth 100000
open Go.RowKit Go.Shelf Go.Lib
set_option maxRecDepth 100000
set_option maxHeartbeats 4000000

theorem kys_set : ∀ (l : List Ky) (i : Nat) (nm : By) (md : Nat), ((kys l).set (i * 2) (.string ⟨nm.toArray⟩)).set (i * 2 + 1) (.int .u8 (md : Int)) = kys (l.set i ⟨nm, md⟩)
  | [], i, nm, md => by simp [kys]
  | a :: l, 0, nm, md => by simp [kys]
  | a :: l, i + 1, nm, md => by
    have := kys_set l i nm md
    rw [show (i + 1) * 2 = i * 2 + 2 by omega]
    simpa [kys] using this
/-- What stays while a row is written over and grown. -/
structure SpM (base : Nat) (w : World) (ob : Option Nat) (v : Value) (l : List Ky) (wr : World) : Prop where
  own : wr.ownsRow base 31 2 v l.length (kys l)
  grown : w.grownBy wr ob
  loc : ∀ k, v.ownBlock = some k → some k = ob ∨ w.heap.size ≤ k
theorem grown_set {w wr : World} {ob : Option Nat} (h : w.grownBy wr ob) {g j : Nat} {u : Value} (hg : some g = ob ∨ w.heap.size ≤ g) : w.grownBy (wr.setCell ⟨g, j, none⟩ u) ob := by
  refine ⟨h.os, h.tape, h.output, by simpa using h.size, fun k hk hne => ?_⟩
  rw [heap_setCell_other _ _ _ _ (fun e => ?_)]
  · exact h.block k hk hne
  · rcases hg with hg | hg
    · exact hne (by rw [← hg, e])
    · rw [e] at hk
      simp only at hk
      omega
theorem grown_on {w wr w' : World} {ob ob' : Option Nat} (h : w.grownBy wr ob) (h2 : wr.grownBy w' ob') (hl : ∀ k, ob' = some k → some k = ob ∨ w.heap.size ≤ k) : w.grownBy w' ob := by
  refine ⟨h2.os.trans h.os, h2.tape.trans h.tape, h2.output.trans h.output, Nat.le_trans h.size h2.size, fun k hk hne => ?_⟩
  have hs := h.size
  rw [h2.block k (by omega) (fun e => ?_), h.block k hk hne]
  rcases hl k e.symm with h3 | h3
  · exact hne h3
  · omega
theorem grown_alloc {w wr : World} {ob : Option Nat} (h : w.grownBy wr ob) (o : Obj) : w.grownBy (wr.alloc o) ob :=
  ⟨h.os, h.tape, h.output, by have := h.size; simp; omega, fun k hk hne => by
    have hs := h.size
    rw [Below.heap_alloc _ _ _ (by omega)]
    exact h.block k hk hne⟩
theorem SpM.store {base : Nat} {w wr : World} {ob : Option Nat} {n c g : Nat} {l : List Ky} (h : SpM base w ob (.slice (some ⟨g, 0, none⟩) n c) l wr) (hn : l.length = n) (i : Nat) (nm : By) (md : Nat) :
    SpM base w ob (.slice (some ⟨g, 0, none⟩) n c) (l.set i ⟨nm, md⟩) ((wr.setCell ⟨g, i * 2, none⟩ (.string ⟨nm.toArray⟩)).setCell ⟨g, i * 2 + 1, none⟩ (.int .u8 (md : Int))) := by
  have h0 := h.own
  rw [hn] at h0
  have h1 := own_store (own_store h0 (i * 2) (.string ⟨nm.toArray⟩)) (i * 2 + 1) (.int .u8 (md : Int))
  rw [kys_set] at h1
  exact ⟨by rw [List.length_set, hn]; exact h1, grown_set (grown_set h.grown (h.loc g rfl)) (h.loc g rfl), h.loc⟩
theorem SpM.app {base s : Nat} {w wr w' : World} {ob : Option Nat} {v v' : Value} {l l' : List Ky} {o : Obj} (hs : wr.heap.size ≤ s) (h : SpM base w ob v l wr) (hg : (wr.alloc o).grownBy w' v.ownBlock) (ho : w'.ownsRow base 31 2 v' l'.length (kys l')) (hl : v'.ownBlock = v.ownBlock ∨ v'.ownBlock = some s) : SpM base w ob v' l' w' := by
  refine ⟨ho, grown_on (grown_alloc h.grown o) hg h.loc, fun k hk => ?_⟩
  rcases hl with e | e
  · exact h.loc k (by rw [← e, hk])
  · right
    rw [hk] at e
    injection e with e
    have := h.grown.size
    omega
theorem key_row {w : World} {base n c : Nat} {A : Option Addr} {l : List Ky} (h : w.ownsRow base 31 2 (.slice A n c) n (kys l)) (hl : l.length = n) {i : Nat} (hi : i < n) :
    ∃ g nm md, A = some ⟨g, 0, none⟩ ∧ w.cell? ⟨g, i * 2, none⟩ = some (.string nm) ∧ w.cell? ⟨g, i * 2 + 1, none⟩ = some (.int .u8 md) := by
  obtain ⟨g, rfl, h1, h2⟩ := own_head h (by omega)
  obtain ⟨g', o, hA, hg', c0, c1⟩ := (At.of_own h).ky (k := i) (by omega)
  have e : g = g' ∧ 0 = o := by
    injection hA with hA
    injection hA with e1 e2
    exact ⟨e1, e2⟩
  obtain ⟨rfl, rfl⟩ := e
  rw [Nat.zero_add] at c0 c1
  exact ⟨g, _, _, rfl, c0, c1⟩
section
variable {ops : Array Oper} {rest : List Oper} {o : Oper} {a : Act} {Q : Exit → Act → World → Prop} {w : World}
theorem append_key_at (hgd : o.guard = none) (s x : Operand) (ho : o.op = .call { callee := .builtin .append, args := #[s, x], argTypes := #[23, 23] }) (base : Nat) (v : Value) (l : List Ky) (nm : ByteArray) (md : Nat) (g : Nat)
    (hs : a.eval s = v) (hx : a.eval x = .slice (some ⟨g, 0, none⟩) 1 1) (hown : w.ownsRow base 31 2 v l.length (kys l)) (h0 : w.cell? ⟨g, 0, none⟩ = some (.string nm)) (h1 : w.cell? ⟨g, 1, none⟩ = some (.int .u8 (md : Int))) (hn : l.length ≤ 1000000) (hbase : base ≤ w.heap.size)
    (h : ∀ v' w', w'.ownsRow base 31 2 v' (l.length + 1) (kys (l ++ [(⟨nm.data.toList, md⟩ : Ky)])) → w.grownBy w' v.ownBlock → (v'.ownBlock = v.ownBlock ∨ v'.ownBlock = some w.heap.size) → wpList Tryd.prog ops Q rest (a.put o.dst v') w') : wpList Tryd.prog ops Q (o :: rest) a w := by
  obtain ⟨i0, hi, hz0, hz1, hz2⟩ := info_parts info_key
  refine wpList_append_own_at w hgd s x 23 ho base 31 i0 _ 2 24 Tryd.underlying23 hi hz0 hz1 hz2 rfl (by decide) v l.length (kys l) hs hown ⟨g, 0, none⟩ 1 1 (kys [(⟨nm.data.toList, md⟩ : Ky)]) hx rfl (fun j u hj => ?_) (kys_one _) (by unfold maxLen; omega) (by omega) hbase (fun v' w' h4 h5 _ h6 => h v' w' (by rw [kys_append]; exact h4) h5 h6)
  match j, hj with
  | 0, hj => simp only [kys, ba_mk] at hj; cases hj; simpa [Addr.add] using h0
  | 1, hj => simp only [kys] at hj; cases hj; simpa [Addr.add] using h1
  | j + 2, hj => simp [kys] at hj
end
def spoiltL : By := [115, 112, 111, 105, 108, 116]
def moreL : By := [109, 111, 114, 101]
theorem spoil_any (base : Nat) (A : Option Addr) (c : Nat) (l : List Ky) (w : World) (hown : w.ownsRow base 31 2 (.slice A l.length c) l.length (kys l)) (hb : base ≤ w.heap.size) (hl : l.length ≤ 100000) :
    Calls Tryd.prog 13 #[.slice A l.length c] w fun e w' => e = .returned (.tuple #[]) ∧ w.grownBy w' (Value.slice A l.length c).ownBlock := by
  obtain ⟨n, hn⟩ : ∃ n, l.length = n := ⟨_, rfl⟩
  rw [hn] at hl hown ⊢
  obtain ⟨ob, hob⟩ : ∃ ob, (Value.slice A n c).ownBlock = ob := ⟨_, rfl⟩
  have H0 : Hid (∃ M : List Ky, M.length = n ∧ SpM base w ob (.slice A n c) M w) := Go.Lib.hid ⟨l, hn, by rw [hn]; exact hown, World.grownBy.refl _ _, fun k hk => .inl (by rw [← hk, hob])⟩
  rw [hob]
  clear hown hn hob
  go_enter Tryd.func13, Tryd.ntmps13
  go_wp2
  go_loopw [2] (fun i wr => ∃ k : Nat, k ≤ n ∧ i = .int .i64 k ∧ Hid (∃ M : List Ky, M.length = n ∧ SpM base w ob (.slice A n c) M wr)) (fun i _ => n - (RowKit.intOf i).toNat)
  case atStart => exact ⟨0, by omega, rfl, H0⟩
  case round =>
    clear H0
    obtain ⟨k, hk, rfl, HS⟩ := hrel
    by_cases hlt : k < n
    · have hli : (k : Int) < (n : Int) := by omega
      obtain ⟨M, hM, hS⟩ := HS.out
      have ho := hS.own
      rw [hM] at ho
      obtain ⟨g, nm0, md0, rfl, x0, x1⟩ := key_row ho hM hlt
      have f0 := ho.frozenAt (k * 2)
      have f1 := ho.frozenAt (k * 2 + 1)
      have HS2 : Hid (∃ M : List Ky, M.length = n ∧ SpM base w ob (.slice (some ⟨g, 0, none⟩) n c) M ((wr.setCell ⟨g, k * 2, none⟩ (.string ⟨spoiltL.toArray⟩)).setCell ⟨g, k * 2 + 1, none⟩ (.int .u8 ((0 : Nat) : Int)))) := Go.Lib.hid ⟨M.set k ⟨spoiltL, 0⟩, by simpa using hM, hS.store hM k spoiltL 0⟩
      clear ho hS HS hM
      go_wp2
      go_roundw
      case rel => exact ⟨k + 1, by omega, by go_num, HS2⟩
      case measure => simp [RowKit.intOf]; omega
    · have hlt' : ¬ ((k : Int) < (n : Int)) := by omega
      go_wp2
      go_loopw [0, 3] (fun v i wq => ∃ (k : Nat) (A' : Option Addr) (c' : Nat), k ≤ 4 ∧ i = .int .i64 k ∧ v = .slice A' (n + k) c' ∧ Hid (∃ M : List Ky, M.length = n + k ∧ SpM base w ob (.slice A' (n + k) c') M wq)) (fun _ i _ => 4 - (RowKit.intOf i).toNat)
      case atStart => exact ⟨0, A, c, by omega, rfl, rfl, HS⟩
      case round =>
        clear HS
        obtain ⟨k2, A', c', hk2, rfl, rfl, HS⟩ := hrel
        by_cases hlt2 : k2 < 4
        · have hli2 : (k2 : Int) < 4 := by omega
          obtain ⟨M, hM, hS⟩ := HS.out
          have HSM := Go.Lib.hid hS
          have hsz := hS.grown.size
          have HMl := Go.Lib.hid hM
          have ho : wr.ownsRow base 31 2 (.slice A' (n + k2) c') M.length (kys M) := hS.own
          clear hS HS
          go_wp2_with (first | (at_builtin; refine append_key_at rfl (.tmp 18) (.tmp 20) rfl base _ M ⟨moreL.toArray⟩ 0 wr.heap.size rfl rfl (ho.alloc _) (by simp [go_sem, moreL]) (by simp [go_sem]) ?_ ?_ ?_))
          · omega
          · (try simp); omega
          intro v2 w5 hown5 hg5 hloc
          have HS5 := Go.Lib.hid (SpM.app (l' := M ++ [⟨moreL, 0⟩]) (Nat.le_succ _) HSM.out hg5 (by rw [List.length_append, HMl.out]; exact hown5) hloc)
          obtain ⟨A2, c2, rfl⟩ := own_shape hown5
          clear hown5 hg5 hloc ho HSM
          go_wp2
          go_roundw
          case rel => exact ⟨k2 + 1, A2, c2, by omega, by go_num, by rw [Nat.add_assoc], Go.Lib.hid ⟨M ++ [⟨moreL, 0⟩], by simp; omega, by rw [← Nat.add_assoc]; exact HS5.out⟩⟩
          case measure => simp [RowKit.intOf]; omega
        · have hlt2' : ¬ ((k2 : Int) < 4) := by omega
          obtain ⟨M, hM, hS⟩ := HS.out
          have ho := hS.own
          rw [hM] at ho
          obtain ⟨g, nm0, md0, rfl, x0, x1⟩ := key_row ho hM (i := 0) (by omega)
          have f1 := ho.frozenAt 1
          rw [show 0 * 2 + 1 = 1 from rfl] at x1
          have hgs := grown_set (j := 1) (u := .int .u8 9) hS.grown (hS.loc g rfl)
          have HGS := Go.Lib.hid hgs
          clear ho hS HS hM hgs x0
          go_wp2
          go_end0
          exact ⟨rfl, HGS.out⟩
end Go.Proofs.YtddigbhijfpmkaaDoor
