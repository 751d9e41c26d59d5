/- Layer 21: the program's Chord: a range over strings.SplitSeq. -/
import Derived.Test.YtddigbhijfpmkaaDoorKeH
import Derived.Test.YtddigbhijfpmkaaDoorKeSeq
import Derived.Test.YtddigbhijfpmkaaDoorRfMem
import Derived.IntWalk
namespace Go.Proofs.YtddigbhijfpmkaaDoor
set_option linter.unusedVariables false
set_option linter.unusedSimpArgs false
set_option maxRecDepth 100000
open Go.RowKit Go.Shelf Go.Lib
attribute [local go_sem] Oper.semAt_some
set_option maxRecDepth 100000
set_option maxHeartbeats 8000000

theorem split_seq (s : ByteArray) (w : World) : Calls Tryd.prog 42 #[.string s, .string { data := #[32] }, .int .i64 0] w fun e w' =>
    e = .returned (.func (.func 60) #[] #[.pointer (some ⟨w.heap.size + 1, 0, none⟩), .pointer (some ⟨w.heap.size, 0, none⟩), .pointer (some ⟨w.heap.size + 2, 0, none⟩)]) ∧
    w' = ((w.alloc (.cells #[.string s] 9)).alloc (.cells #[.string { data := #[32] }] 9)).alloc (.cells #[.int .i64 0] 3) := by
  go_enter Tryd.func42, Tryd.ntmps42
  go_wp2
  go_ret
  exact ⟨rfl, rfl⟩
theorem Split_seq (s : ByteArray) (w : World) : Calls Tryd.prog 29 #[.string s, .string { data := #[32] }] w fun e w' =>
    e = .returned (.func (.func 60) #[] #[.pointer (some ⟨w.heap.size + 1, 0, none⟩), .pointer (some ⟨w.heap.size, 0, none⟩), .pointer (some ⟨w.heap.size + 2, 0, none⟩)]) ∧
    w' = ((w.alloc (.cells #[.string s] 9)).alloc (.cells #[.string { data := #[32] }] 9)).alloc (.cells #[.int .i64 0] 3) := by
  go_enter Tryd.func29, Tryd.ntmps29
  go_wp2_with fail
  refine (split_seq s w).mono ?_
  rintro e w' ⟨rfl, rfl⟩
  go_wp2
  go_ret
  exact ⟨rfl, rfl⟩
theorem heap8 (w : World) (o0 o1 o2 o3 o4 o5 o6 o7 : Obj) {W : World} (h : W = (((((((w.alloc o0).alloc o1).alloc o2).alloc o3).alloc o4).alloc o5).alloc o6).alloc o7) :
    W.heap[w.heap.size]? = some o0 ∧ W.heap[w.heap.size + 1]? = some o1 ∧ W.heap[w.heap.size + 1 + 1]? = some o2 ∧ W.heap[w.heap.size + 1 + 1 + 1]? = some o3 ∧ W.heap[w.heap.size + 1 + 1 + 1 + 1]? = some o4 ∧
    W.heap[w.heap.size + 5]? = some o5 ∧ W.heap[w.heap.size + 5 + 1]? = some o6 ∧ W.heap[w.heap.size + 5 + 2]? = some o7 ∧ W.heap.size = w.heap.size + 8 ∧ Below w.heap.size w W := by
  have e : W = allocs w [o0, o1, o2, o3, o4, o5, o6, o7] := h
  clear h
  subst e
  have g := allocs_get [o0, o1, o2, o3, o4, o5, o6, o7] w
  exact ⟨g 0 _ rfl, g 1 _ rfl, g 2 _ rfl, g 3 _ rfl, g 4 _ rfl, g 5 _ rfl, g 6 _ rfl, g 7 _ rfl, allocs_size _ _, allocs_below _ _⟩
theorem mem_cutB : ∀ (l : By) (p : By), p ∈ cutB l → p.length ≤ l.length
  | [], p, h => by
    rw [show cutB [] = [[]] from rfl, List.mem_singleton] at h
    subst h
    exact Nat.le_refl _
  | b :: t, p, h => by
    have ih := mem_cutB t
    rw [cutB_cons] at h
    split at h
    · rcases List.mem_cons.1 h with rfl | h
      · exact Nat.zero_le _
      · have := ih p h
        simp only [List.length_cons]
        omega
    · cases hc : cutB t with
      | nil =>
        rw [hc] at h
        rw [List.mem_singleton] at h
        subst h
        simp
      | cons q qs =>
        rw [hc] at h ih
        rcases List.mem_cons.1 h with rfl | h
        · have := ih q List.mem_cons_self
          simp only [List.length_cons]
          omega
        · have := ih p (List.mem_cons_of_mem _ h)
          simp only [List.length_cons]
          omega
section
variable {F : Fence} {m : Nat} {ops : Array Oper} {rest : List Oper} {o : Oper} {a : Act} {Q : Exit → Act → World → Prop} {w : World}
theorem append_keyIn (hgd : o.guard = none) (s x : Operand) (ho : o.op = .call { callee := .builtin .append, args := #[s, x], argTypes := #[23, 23] }) (base : Nat) (v : Value) (l : List Ky) (nm : ByteArray) (md : Nat) (g : Nat)
    (hs : a.eval s = v) (hx : a.eval x = .slice (some ⟨g, 0, none⟩) 1 1) (hown : w.ownsRow base 31 2 v l.length (kys l)) (h0 : w.cell? ⟨g, 0, none⟩ = some (.string nm)) (h1 : w.cell? ⟨g, 1, none⟩ = some (.int .u8 (md : Int))) (hn : l.length ≤ 1000000) (hbase : base ≤ w.heap.size)
    (h : ∀ v' w', w'.ownsRow base 31 2 v' (l ++ [(⟨nm.data.toList, md⟩ : Ky)]).length (kys (l ++ [(⟨nm.data.toList, md⟩ : Ky)])) → w.grownBy w' v.ownBlock → wpListIn F m Tryd.prog ops Q rest (a.put o.dst v') w') : wpListIn F m Tryd.prog ops Q (o :: rest) a w := by
  obtain ⟨i0, hi, hz0, hz1, hz2⟩ := info_parts info_key
  refine wpListIn_append_own w hgd s x 23 ho base 31 i0 _ 2 24 Tryd.underlying23 hi hz0 hz1 hz2 rfl (by decide) v l.length (kys l) hs hown ⟨g, 0, none⟩ 1 1 (kys [(⟨nm.data.toList, md⟩ : Ky)]) hx rfl (fun j u hj => ?_) (kys_one _) (by unfold maxLen; omega) (by omega) hbase (fun v' w' h4 h5 _ => ?_)
  · match j, hj with
    | 0, hj => simp only [kys, ba_mk] at hj; cases hj; simpa [Addr.add] using h0
    | 1, hj => simp only [kys] at hj; cases hj; simpa [Addr.add] using h1
    | j + 2, hj => simp [kys] at hj
  · exact h v' w' (by rw [kys_append, List.length_append]; exact h4) h5
end
/-- Between two rounds. -/
def ChI (w : World) (n : Nat) (l : By) (Z : List Ky × Nat × Nat) (pre : List ByteArray) (W : World) : Prop :=
  ∃ (A : Option Addr) (c : Nat) (acc : List Ky) (at_ : Nat), Box1 W (n + 1 + 1 + 1) (.slice A acc.length c) ∧ W.ownsRow (n + 10) 31 2 (.slice A acc.length c) acc.length (kys acc) ∧ Box1 W (n + 1 + 1 + 1 + 1) (.int .i64 (at_ : Int)) ∧
    (∃ v, Box1 W n v) ∧ (∃ v, Box1 W (n + 1) v) ∧ (∃ v, Box1 W (n + 1 + 1) v) ∧ acc.length ≤ 8 ∧ (∀ tail, cutB l = pre.map (·.data.toList) ++ tail → Z = chordG acc at_ tail) ∧ at_ + ((cutB l).drop pre.length |>.map fun p => p.length + 1).sum ≤ 70000 ∧ Below n w W
/-- A round has left with an error. -/
def ChX (w : World) (n : Nat) (Z : List Ky × Nat × Nat) (c : Code) (_ : List ByteArray) (W : World) : Prop :=
  c = .ret ∧ Z.1 = [] ∧ Box1 W n (.slice none 0 0) ∧ Box1 W (n + 1) (.int .i64 (Z.2.1 : Int)) ∧ Box1 W (n + 1 + 1) (.int .i64 (Z.2.2 : Int)) ∧ Below n w W
theorem cutB_sum : ∀ l : By, ((cutB l).map fun p => p.length + 1).sum = l.length + 1
  | [] => rfl
  | b :: t => by
    have ih := cutB_sum t
    rw [cutB_cons]
    split
    · simp only [List.map_cons, List.sum_cons, List.length_nil, List.length_cons, ih]
      omega
    · cases h : cutB t with
      | nil => rw [h] at ih; simp at ih
      | cons p ps =>
        rw [h] at ih
        simp only [List.map_cons, List.sum_cons, List.length_cons] at ih ⊢
        omega
theorem Chord_any (s : ByteArray) (w : World) (hT : Tabs w) : Calls Tryd.prog 16 #[.string s] w (ChordP w (chordL s.data.toList)) := by
  unfold chordL
  rw [ba_len]
  by_cases h : 65536 < s.size
  · have h1 : (65536 : Int) < (s.size : Int) := by omega
    rw [if_pos h]
    go_enter Tryd.func16, Tryd.ntmps16
    go_wp2
    refine bodyPost_ret (v := .tuple #[.slice none 0 0, .int .i64 0, .int .i64 3]) (by simp [results, Tryd.results16, go_sem, *]) rfl ⟨none, 0, rfl, World.ownsRow_nil _ _ _ _, (((Below.refl _ _).alloc (Nat.le_refl _) _).alloc (by simp) _).alloc (by simp; omega) _⟩
  · have h1 : ¬ ((65536 : Int) < (s.size : Int)) := by omega
    rw [if_neg h]
    obtain ⟨Z, hZ⟩ : ∃ Z, chordG [] 0 (cutB s.data.toList) = Z := ⟨_, rfl⟩
    rw [hZ]
    have hsz : s.size ≤ 65536 := by omega
    have HZ0 := hid hZ
    clear hZ h
    refine (callsIn_wide (n := 6)).1 ?_
    refine callsIn_of_wp_marks Tryd.func16 rfl trivial ?_ rfl
    simp only [Tryd.ntmps16, List.size_toArray, List.length_cons, List.length_nil, Nat.reduceAdd, Nat.reduceSub, Array.replicate_succ, Array.replicate_zero, List.push_toArray, List.append_toArray, List.nil_append, List.cons_append]
    obtain ⟨n, hn⟩ : ∃ n, w.heap.size = n := ⟨_, rfl⟩
    gi_wp2_with fail
    refine ⟨trivial, (callsIn_wide.2 (Split_seq s _)).mono ?_⟩
    rintro e w' ⟨rfl, hw'⟩
    simp only [World.size_alloc] at hw' ⊢
    obtain ⟨k0, k1, k2, k3, k4, k5, k6, k7, hsz0, hB0⟩ := heap8 w _ _ _ _ _ _ _ _ hw'
    clear hw'
    rw [hn] at k0 k1 k2 k3 k4 k5 k6 k7 hsz0 hB0 ⊢
    have x0 := Box1.of_heap k0
    have x1 := Box1.of_heap k1
    have x2 := Box1.of_heap k2
    have x3 := Box1.of_heap k3
    have x4 := Box1.of_heap k4
    have x5 := Box1.of_heap k5
    have x6 := Box1.of_heap k6
    have x7 := Box1.of_heap k7
    clear k0 k1 k2 k3 k4 k5 k6 k7
    have hSQ : SeqAt w (n + 1 + 1 + 1 + 1 + 1) s w' := ⟨x5.c, x5.f, x6.c, x7.c, fun k hk => hB0.block k (by omega), hT, by omega⟩
    generalize w' = W0 at *
    clear x5 x6 x7
    have HX0 := hid x0
    have HX1 := hid x1
    have HX2 := hid x2
    have HX3 := hid x3
    have HX4 := hid x4
    clear x0 x1 x2 x3 x4
    have HN := hid hn
    clear hn
    have HSQ := hid hSQ
    have HB0 := hid hB0
    clear hSQ hB0
    gi_wp2
    refine wp_rangeIter rfl (by decide) (gf := 60) (lb := #[.pointer (some ⟨n + 1 + 1 + 1 + 1 + 1 + 1, 0, none⟩), .pointer (some ⟨n + 1 + 1 + 1 + 1 + 1, 0, none⟩), .pointer (some ⟨n + 1 + 1 + 1 + 1 + 1 + 2, 0, none⟩)]) rfl trivial (enters_of Tryd.func60 (by kernel_rfl) rfl)
      (seq_iter _ w W0 (n + 1 + 1 + 1 + 1 + 1) s HSQ.out (by omega) (by omega)) (fun k hk => by omega) (fun k hk => by unfold SeqR at hk; have := HN.out; omega) (fun _ => rfl)
      (ChI w n s.data.toList Z) (ChX w n Z) ?hI ?hIx ?h0
      (fun x => { tmps := #[.string s, undef, .pointer (some ⟨n, 0, none⟩), .pointer (some ⟨n + 1, 0, none⟩), .pointer (some ⟨n + 1 + 1, 0, none⟩), .pointer (some ⟨n + 1 + 1 + 1, 0, none⟩), .pointer (some ⟨n + 1 + 1 + 1 + 1, 0, none⟩), .string x, undef, undef, undef, .string s, .int .i64 (s.size : Int), .bool false, .string s,
        .func (.func 60) #[] #[.pointer (some ⟨n + 1 + 1 + 1 + 1 + 1 + 1, 0, none⟩), .pointer (some ⟨n + 1 + 1 + 1 + 1 + 1, 0, none⟩), .pointer (some ⟨n + 1 + 1 + 1 + 1 + 1 + 2, 0, none⟩)], .string x, undef, undef, undef, undef, undef, undef, undef, undef, undef, undef, undef, undef, undef, undef, undef, undef, undef, undef, undef, undef, undef, undef, undef, undef, undef], defers := [] }) ?assign ?body ?done ?stop
    case hI =>
      rintro pre W W' ⟨A, c, acc, at_, b3, hown, b4, ⟨v0, b0⟩, ⟨v1, b1⟩, ⟨v2, b2⟩, hacc, HT, hsum, hB⟩ t
      exact ⟨A, c, acc, at_, b3.turn t (by omega), own_turn hown t (fun k hk => by omega), b4.turn t (by omega), ⟨v0, b0.turn t (by omega)⟩, ⟨v1, b1.turn t (by omega)⟩, ⟨v2, b2.turn t (by omega)⟩, hacc, HT, hsum, below_turn hB (Nat.le_of_eq HN.out.symm) t (fun k hk => by omega)⟩
    case hIx =>
      rintro c pre W W' ⟨hc, hz, b0, b1, b2, hB⟩ t
      exact ⟨hc, hz, b0.turn t (by omega), b1.turn t (by omega), b2.turn t (by omega), below_turn hB (Nat.le_of_eq HN.out.symm) t (fun k hk => by omega)⟩
    case h0 =>
      refine ⟨none, 0, [], 0, HX3.out, World.ownsRow_nil _ _ _ _, HX4.out, ⟨_, HX0.out⟩, ⟨_, HX1.out⟩, ⟨_, HX2.out⟩, by decide, fun tail ht => ?_, ?_, HB0.out⟩
      · rw [← HZ0.out, ht]
        rfl
      · rw [List.length_nil, List.drop_zero, cutB_sum, ba_len]
        omega
    case assign =>
      intro l x W K hK
      gi_wp2
      exact hK
    case body =>
      rintro l pre x W ⟨A, c, acc, at_, b3, hown, b4, ⟨v0, b0⟩, ⟨v1, b1⟩, ⟨v2, b2⟩, hacc, HT, hsum, hB⟩ hsp hlt
      obtain ⟨tail, ht⟩ := hsp
      have ht' : cutB s.data.toList = pre.map (·.data.toList) ++ x.data.toList :: tail := by rw [← ht]; simp
      have hz := HT _ ht'
      rw [chordG_cons] at hz
      have hxl := mem_cutB s.data.toList x.data.toList (by rw [ht']; simp)
      rw [ba_len, ba_len] at hxl
      have hs2 : at_ + (x.size + 1 + (tail.map fun p => p.length + 1).sum) ≤ 70000 := by
        rw [ht', List.drop_left' (by simp)] at hsum
        rw [List.map_cons, List.sum_cons, ba_len] at hsum
        exact hsum
      have hl0 := hB.size
      have hnW := HN.out
      have CP := parse_any x W (tabs_on hT (by rw [hnW]; exact hB)) (by omega)
      have hpl := parseL_le x.data.toList
      rw [ba_len] at hpl hz
      clear HT hsum
      have K0 := hid b0
      have K1 := hid b1
      have K2 := hid b2
      have K3 := hid b3
      have K4 := hid b4
      obtain ⟨c3, f3⟩ := b3
      obtain ⟨c4, f4⟩ := b4
      obtain ⟨c0, f0⟩ := b0
      obtain ⟨c1, f1⟩ := b1
      obtain ⟨c2, f2⟩ := b2
      by_cases h8 : acc.length = 8
      · rw [if_pos h8] at hz
        have h8i : ((acc.length : Int) == 8) = true := beq_iff_eq.2 (by omega)
        have HZ := hid hz
        clear hz h8
        gi_wp2
        refine ⟨((KeepsOthers.setCell _ _ _).trans (KeepsOthers.setCell _ _ _)).trans (KeepsOthers.setCell _ _ _), rfl, by rw [HZ.out], ?_, ?_, ?_, ((hB.setCell (p := ⟨n, 0, none⟩) (Nat.le_refl _) _).setCell (p := ⟨n + 1, 0, none⟩) (by show n ≤ n + 1; omega) _).setCell (p := ⟨n + 1 + 1, 0, none⟩) (by show n ≤ n + 1 + 1; omega) _⟩
        · exact ((K0.out.set _).off (by show n ≠ n + 1; omega) _).off (by show n ≠ n + 1 + 1; omega) _
        · rw [HZ.out]
          exact ((K1.out.off (by show n + 1 ≠ n; omega) _).set _).off (by show n + 1 ≠ n + 1 + 1; omega) _
        · rw [HZ.out]
          exact ((K2.out.off (by show n + 1 + 1 ≠ n; omega) _).off (by show n + 1 + 1 ≠ n + 1; omega) _).set _
      · rw [if_neg h8] at hz
        have h8i : ((acc.length : Int) == 8) = false := beq_eq_false_iff_ne.2 (by omega)
        have h8l : acc.length < 8 := by omega
        clear h8
        generalize parseL x.data.toList = Y at *
        obtain ⟨⟨ynm, ymd⟩, yat, yer⟩ := Y
        simp only [kyV] at CP hz hpl
        by_cases hy : yer = 0
        · subst hy
          rw [if_neg (by simp)] at hz
          have HZ := hid hz
          clear hz
          have hat9 : (at_ : Int) ≤ 70000 := by omega
          have hx9 : (x.size : Int) ≤ 70000 := by omega
          gi_wp2_with fail
          refine ⟨trivial, (CallsIn.inRound l (callsIn_wide.2 CP)).mono ?_⟩
          rintro e w2 ⟨rfl, hb2⟩
          have hs2' := hb2.size
          have hB2 : Below n w w2 := hB.trans (hb2.mono (by omega))
          have KK := keeps_below hb2
          have hown2 := own_below' hown hb2
          have J0 := hid (K0.out.below hb2 (by omega))
          have J1 := hid (K1.out.below hb2 (by omega))
          have J2 := hid (K2.out.below hb2 (by omega))
          have J3 := hid (K3.out.below hb2 (by omega))
          have J4 := hid (K4.out.below hb2 (by omega))
          clear c0 c1 c2 c3 c4 f0 f1 f2 f3 f4 CP K0 K1 K2 K3 K4
          have L3 := J3.out
          have L4 := J4.out
          obtain ⟨c3, f3⟩ := L3
          obtain ⟨c4, f4⟩ := L4
          have lt3 : n + 1 + 1 + 1 < w2.heap.size := by omega
          have lt3' : n + 1 + 1 + 1 < w2.heap.size + 1 := by omega
          have lt4 : n + 1 + 1 + 1 + 1 < w2.heap.size := by omega
          have lt4' : n + 1 + 1 + 1 + 1 < w2.heap.size + 1 := by omega
          gi_wp2_with (gi_at_builtin; refine append_keyIn rfl (.tmp 32) (.tmp 34) rfl (n + 10) _ acc ⟨ynm.toArray⟩ ymd (w2.heap.size + 1) rfl rfl ((hown2.alloc _).alloc _) (by simp [go_sem]) (by simp [go_sem]) ?_ ?_ ?_)
          · omega
          · simp; omega
          intro v5 w5 hown5 hg5
          obtain ⟨A5, k5, rfl⟩ := own_shape hown5
          have hrow : ∀ k, (Value.slice A acc.length c).ownBlock = some k → n + 10 ≤ k := own_ge hown2
          have KA1 := KeepsOthers.alloc w2 (.cells #[.string ⟨ynm.toArray⟩, .int .u8 (ymd : Int)] 31)
          have KA2 := KeepsOthers.alloc (w2.alloc (.cells #[.string ⟨ynm.toArray⟩, .int .u8 (ymd : Int)] 31)) (.cells #[.string ⟨ynm.toArray⟩, .int .u8 (ymd : Int)] 31)
          have KO := ((KK.trans KA1).trans KA2).trans (keeps_own ((hown2.alloc _).alloc _) hg5)
          have T5 : Turn (fun k => (n ≤ k ∧ k ≤ n + 4) ∨ n + 10 ≤ k) W w5 := (((Turn.of_below hb2).trans (Turn.alloc _ _ _)).trans (Turn.alloc _ _ _)).trans (Turn.grown hg5 fun k hk => .inr (hrow k hk))
          have hB5 : Below n w w5 := ((hB2.alloc (by omega) _).alloc (by simp; omega) _).grown hg5 (by simp; omega) (fun k hk => by have := hrow k hk; omega)
          have M0 := hid (((J0.out.alloc _).alloc _).grown hg5 fun k hk => by have := hrow k hk; omega)
          have M1 := hid (((J1.out.alloc _).alloc _).grown hg5 fun k hk => by have := hrow k hk; omega)
          have M2 := hid (((J2.out.alloc _).alloc _).grown hg5 fun k hk => by have := hrow k hk; omega)
          have M3 := hid (((J3.out.alloc _).alloc _).grown hg5 fun k hk => by have := hrow k hk; omega)
          have M4 := hid (((J4.out.alloc _).alloc _).grown hg5 fun k hk => by have := hrow k hk; omega)
          clear hg5 hown2 KA1 KA2 KK c3 c4 f3 f4 J0 J1 J2 J3 J4 hb2 hB2
          have L3 := M3.out
          have L4 := M4.out
          obtain ⟨c3, f3⟩ := L3
          obtain ⟨c4, f4⟩ := L4
          have HOWN := hid hown5
          have HKO := hid KO
          have HT5 := hid T5
          clear hown5 KO T5
          gi_wp2
          have e : (⟨(ByteArray.mk ynm.toArray).data.toList, ymd⟩ : Ky) = ⟨ynm, ymd⟩ := by simp
          have HO := HOWN.out
          rw [e] at HO
          have t3 : Turn (fun k => k = n + 1 + 1 + 1 ∨ k = n + 1 + 1 + 1 + 1) w5 ((w5.setCell ⟨n + 1 + 1 + 1, 0, none⟩ (.slice A5 (acc.length + 1) k5)).setCell ⟨n + 1 + 1 + 1 + 1, 0, none⟩ (.int .i64 ((at_ : Int) + ((x.size : Int) + 1)))) := (Turn.set (p := ⟨n + 1 + 1 + 1, 0, none⟩) (.inl rfl) _).trans (Turn.set (p := ⟨n + 1 + 1 + 1 + 1, 0, none⟩) (.inr rfl) _)
          refine ⟨(HKO.out.trans (KeepsOthers.setCell _ _ _)).trans (KeepsOthers.setCell _ _ _), Pin.of_turn (HT5.out.trans (t3.wider fun k hk => by omega)) (fun k hk => by unfold SeqR at hk; omega), A5, k5, acc ++ [⟨ynm, ymd⟩], at_ + x.size + 1, ?_, ?_, ?_, ⟨_, M0.out.turn t3 (by omega)⟩, ⟨_, M1.out.turn t3 (by omega)⟩, ⟨_, M2.out.turn t3 (by omega)⟩, by rw [List.length_append]; show acc.length + 1 ≤ 8; omega, fun tl htl => ?_, ?_, below_turn hB5 (Nat.le_of_eq HN.out.symm) t3 (fun k hk => by omega)⟩
          · rw [List.length_append]
            exact (M3.out.set _).off (by show n + 1 + 1 + 1 ≠ n + 1 + 1 + 1 + 1; omega) _
          · have := own_turn HO t3 (fun k hk => by omega)
            rw [List.length_append]
            exact this
          · have := (M4.out.off (p := ⟨n + 1 + 1 + 1, 0, none⟩) (by show n + 1 + 1 + 1 + 1 ≠ n + 1 + 1 + 1; omega) (.slice A5 (acc.length + 1) k5)).set (.int .i64 ((at_ : Int) + ((x.size : Int) + 1)))
            rw [show ((at_ + x.size + 1 : Nat) : Int) = (at_ : Int) + ((x.size : Int) + 1) by omega]
            exact this
          · rw [ht', List.map_append, List.append_assoc] at htl
            have := List.append_cancel_left htl
            simp only [List.map_cons, List.map_nil, List.cons_append, List.nil_append, List.cons.injEq, true_and] at this
            rw [← this]
            exact HZ.out
          · rw [ht', show pre.map (·.data.toList) ++ x.data.toList :: tail = (pre ++ [x]).map (·.data.toList) ++ tail by simp, List.drop_left' (by simp)]
            omega
        · rw [if_pos hy] at hz
          have hyi : ((yer : Int) == 0) = false := beq_eq_false_iff_ne.2 (by omega)
          have HZ := hid hz
          clear hz
          gi_wp2_with fail
          refine ⟨trivial, (CallsIn.inRound l (callsIn_wide.2 CP)).mono ?_⟩
          rintro e w2 ⟨rfl, hb2⟩
          have hs2 := hb2.size
          have hB2 : Below n w w2 := hB.trans (hb2.mono (by omega))
          have KK := keeps_below hb2
          clear c0 c1 c2 c3 c4 f0 f1 f2 f3 f4 CP
          gi_wp2
          have KA := KeepsOthers.alloc w2 (.cells #[.string ⟨ynm.toArray⟩, .int .u8 (ymd : Int)] 31)
          have hB3 := hB2.alloc (by omega) (.cells #[.string ⟨ynm.toArray⟩, .int .u8 (ymd : Int)] 31)
          have J0 := hid ((K0.out.below hb2 (by omega)).alloc (.cells #[.string ⟨ynm.toArray⟩, .int .u8 (ymd : Int)] 31))
          have J1 := hid ((K1.out.below hb2 (by omega)).alloc (.cells #[.string ⟨ynm.toArray⟩, .int .u8 (ymd : Int)] 31))
          have J2 := hid ((K2.out.below hb2 (by omega)).alloc (.cells #[.string ⟨ynm.toArray⟩, .int .u8 (ymd : Int)] 31))
          obtain ⟨d4, e4⟩ := (K4.out.below hb2 (by omega)).alloc (.cells #[.string ⟨ynm.toArray⟩, .int .u8 (ymd : Int)] 31)
          generalize w2.alloc (.cells #[.string ⟨ynm.toArray⟩, .int .u8 (ymd : Int)] 31) = w3 at *
          clear K0 K1 K2 K3 K4
          have L0 := J0.out
          have L1 := J1.out
          have L2 := J2.out
          obtain ⟨c0, f0⟩ := L0
          obtain ⟨c1, f1⟩ := L1
          obtain ⟨c2, f2⟩ := L2
          have hmx := mixed
          have hat9 : (at_ : Int) ≤ 70000 := by omega
          have hya9 : (yat : Int) ≤ 70000 := by omega
          have hfin : ∀ a, leftBy (SeqR w (n + 1 + 1 + 1 + 1 + 1)) (ChI w n s.data.toList Z) (ChX w n Z) (pre ++ [x]) W .ret a (((w3.setCell ⟨n, 0, none⟩ (.slice none 0 0)).setCell ⟨n + 1, 0, none⟩ (.int .i64 ((at_ : Int) + (yat : Int)))).setCell ⟨n + 1 + 1, 0, none⟩ (.int .i64 (yer : Int))).drew := fun a => by
            refine ⟨((((KK.trans KA).trans (KeepsOthers.setCell _ _ _)).trans (KeepsOthers.setCell _ _ _)).trans (KeepsOthers.setCell _ _ _)).trans (KeepsOthers.drew _), rfl, by rw [HZ.out], ?_, ?_, ?_, (((hB3.setCell (p := ⟨n, 0, none⟩) (Nat.le_refl _) _).setCell (p := ⟨n + 1, 0, none⟩) (by show n ≤ n + 1; omega) _).setCell (p := ⟨n + 1 + 1, 0, none⟩) (by show n ≤ n + 1 + 1; omega) _).drew⟩
            · exact (((J0.out.set _).off (by show n ≠ n + 1; omega) _).off (by show n ≠ n + 1 + 1; omega) _).same rfl
            · rw [HZ.out]
              exact (((J1.out.off (by show n + 1 ≠ n; omega) _).set _).off (by show n + 1 ≠ n + 1 + 1; omega) _).same rfl
            · rw [HZ.out]
              exact (((J2.out.off (by show n + 1 + 1 ≠ n; omega) _).off (by show n + 1 + 1 ≠ n + 1; omega) _).set _).same rfl
          have hwr : IntKind.i64.wrap ((at_ : Int) + (yat : Int)) = (at_ : Int) + (yat : Int) := IntWalk.i64_in _ (by omega)
          gi_region_with_o (fail)
          all_goals
            gi_wp2
            exact hfin _
    case done =>
      rintro xs W hS ⟨A, c, acc, at_, b3, hown, b4, ⟨v0, b0⟩, ⟨v1, b1⟩, ⟨v2, b2⟩, hacc, HT, hsum, hB⟩ hD
      have hz := HT [] (by rw [List.append_nil]; exact hS.symm)
      have hz : Z = (acc, 0, 0) := hz
      subst hz
      have K0 := hid b0
      have K1 := hid b1
      have K2 := hid b2
      obtain ⟨c3, f3⟩ := b3
      obtain ⟨c0, f0⟩ := b0
      obtain ⟨c1, f1⟩ := b1
      obtain ⟨c2, f2⟩ := b2
      have hDl := lt_of_block hD
      gi_wp2
      refine ⟨by simp, .inl ⟨_, _, rfl, run_takeDeferred (w := ((W.setCell ⟨n, 0, none⟩ (.slice A acc.length c)).setCell ⟨n + 1, 0, none⟩ (.int .i64 0)).setCell ⟨n + 1 + 1, 0, none⟩ (.int .i64 0)) (ds := []) ?_, ?_⟩⟩
      · rw [Below.heap_setCell _ _ _ _ (by show W0.heap.size ≠ n + 1 + 1; omega), Below.heap_setCell _ _ _ _ (by show W0.heap.size ≠ n + 1; omega), Below.heap_setCell _ _ _ _ (by show W0.heap.size ≠ n; omega)]
        exact hD
      · have t3 : Turn (fun k => k = n ∨ k = n + 1 ∨ k = n + 1 + 1) W (((W.setCell ⟨n, 0, none⟩ (.slice A acc.length c)).setCell ⟨n + 1, 0, none⟩ (.int .i64 0)).setCell ⟨n + 1 + 1, 0, none⟩ (.int .i64 0)) :=
          ((Turn.set (p := ⟨n, 0, none⟩) (.inl rfl) _).trans (Turn.set (p := ⟨n + 1, 0, none⟩) (.inr (.inl rfl)) _)).trans (Turn.set (p := ⟨n + 1 + 1, 0, none⟩) (.inr (.inr rfl)) _)
        have t4 := fun V => Turn.put (W := V) (C := fun k => k = W0.heap.size) (l := W0.heap.size) rfl (.deferred none)
        have P0 := (((K0.out.set (.slice A acc.length c)).off (p := ⟨n + 1, 0, none⟩) (by show n ≠ n + 1; omega) (.int .i64 0)).off (p := ⟨n + 1 + 1, 0, none⟩) (by show n ≠ n + 1 + 1; omega) (.int .i64 0)).turn (t4 _) (by omega)
        have P1 := (((K1.out.off (p := ⟨n, 0, none⟩) (by show n + 1 ≠ n; omega) (.slice A acc.length c)).set (.int .i64 0)).off (p := ⟨n + 1 + 1, 0, none⟩) (by show n + 1 ≠ n + 1 + 1; omega) (.int .i64 0)).turn (t4 _) (by omega)
        have P2 := (((K2.out.off (p := ⟨n, 0, none⟩) (by show n + 1 + 1 ≠ n; omega) (.slice A acc.length c)).off (p := ⟨n + 1, 0, none⟩) (by show n + 1 + 1 ≠ n + 1; omega) (.int .i64 0)).set (.int .i64 0)).turn (t4 _) (by omega)
        have hBE := below_turn (below_turn hB (Nat.le_of_eq HN.out.symm) t3 (fun k hk => by omega)) (Nat.le_of_eq HN.out.symm) (t4 _) (fun k hk => by omega)
        have hOE := own_mono (own_turn (own_turn hown t3 (fun k hk => by omega)) (t4 _) (fun k hk => by omega)) (show n ≤ n + 10 by omega)
        obtain ⟨p0, _⟩ := P0
        obtain ⟨p1, _⟩ := P1
        obtain ⟨p2, _⟩ := P2
        generalize ((((W.setCell ⟨n, 0, none⟩ (.slice A acc.length c)).setCell ⟨n + 1, 0, none⟩ (.int .i64 0)).setCell ⟨n + 1 + 1, 0, none⟩ (.int .i64 0)).putObj W0.heap.size (.deferred none)) = E at *
        refine ⟨.tuple #[.slice A acc.length c, .int .i64 0, .int .i64 0], by simp [results, Tryd.results16, go_sem, *], A, c, rfl, ?_, ?_⟩
        · rw [HN.out]
          exact hOE
        · rw [HN.out]
          exact hBE
    case stop =>
      rintro c pre W hSp ⟨rfl, hz, b0, b1, b2, hB⟩ hD
      have hDl := lt_of_block hD
      gi_wp2
      refine ⟨by simp, .inl ⟨_, _, rfl, run_takeDeferred hD, ?_⟩⟩
      have P0 := b0.turn (Turn.put (C := fun k => k = W0.heap.size) (l := W0.heap.size) rfl (.deferred none)) (by omega)
      have P1 := b1.turn (Turn.put (C := fun k => k = W0.heap.size) (l := W0.heap.size) rfl (.deferred none)) (by omega)
      have P2 := b2.turn (Turn.put (C := fun k => k = W0.heap.size) (l := W0.heap.size) rfl (.deferred none)) (by omega)
      have hBE : Below n w (W.putObj W0.heap.size (.deferred none)) := below_turn hB (Nat.le_of_eq HN.out.symm) (Turn.put (C := fun k => k = W0.heap.size) (l := W0.heap.size) rfl _) (fun k hk => by omega)
      obtain ⟨p0, _⟩ := P0
      obtain ⟨p1, _⟩ := P1
      obtain ⟨p2, _⟩ := P2
      generalize W.putObj W0.heap.size (.deferred none) = E at *
      refine ⟨.tuple #[.slice none 0 0, .int .i64 (Z.2.1 : Int), .int .i64 (Z.2.2 : Int)], by simp [results, Tryd.results16, go_sem, *], none, 0, ?_, ?_, ?_⟩
      · rw [hz]
        rfl
      · rw [hz]
        exact World.ownsRow_nil _ _ _ _
      · rw [HN.out]
        exact hBE
end Go.Proofs.YtddigbhijfpmkaaDoor
