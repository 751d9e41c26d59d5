/- Layer 8: the walk below a node: the iterator's closure that calls itself. -/
import Derived.Test.YtnkojoajcdhngaaDoorTrAb
import Derived.Test.YtnkojoajcdhngaaDoorRfAb
namespace Go.Proofs.YtnkojoajcdhngaaDoor
set_option linter.unusedVariables false
set_option linter.unusedSimpArgs false
set_option maxRecDepth 100000
open Go.RowKit Go.Shelf Go.Lib
attribute [local go_sem] Oper.semAt_some
set_option maxRecDepth 100000
set_option maxHeartbeats 16000000

/-- A node and all below it, with their depths: ahead of its kids, or (up) behind them. -/
def subF (K : Nat → List Int) (up : Bool) : Nat → Int → Int → List (Int × Int)
  | 0, _, _ => []
  | f + 1, i, d => (if up then [] else [(i, d)]) ++ ((K i.toNat).flatMap fun k => subF K up f k (d + 1)) ++ (if up then [(i, d)] else [])
def Dep (K : Nat → List Int) (N : Nat) : Nat → Int → Prop
  | 0, _ => False
  | f + 1, i => 0 ≤ i ∧ i < (N : Int) ∧ ∀ k ∈ K i.toNat, Dep K N f k
theorem Dep.nonneg {K : Nat → List Int} {N f : Nat} {i : Int} (h : Dep K N f i) : 0 ≤ i := by
  cases f with
  | zero => exact h.elim
  | succ f => exact h.1
/-- A box with a slice of rows. -/
def LsAt (w : World) (b gl n : Nat) : Prop := ∃ cap, w.heap[b]? = some (.cells #[.slice (some ⟨gl, 0, none⟩) n cap] 79 (0, 0))
theorem LsAt.lt {w : World} {b gl n : Nat} (h : LsAt w b gl n) : b < w.heap.size := lt_of_block h.choose_spec
theorem LsAt.same {w w' : World} {b gl n : Nat} (h : LsAt w b gl n) (e : w'.heap[b]? = w.heap[b]?) : LsAt w' b gl n := ⟨h.choose, e.trans h.choose_spec⟩
theorem LsAt.cell {w : World} {b gl n : Nat} (h : LsAt w b gl n) : ∃ cap, w.cell? ⟨b, 0, none⟩ = some (.slice (some ⟨gl, 0, none⟩) n cap) := ⟨h.choose, by rw [blk_cell h.choose_spec]; rfl⟩
/-- What the closure reads. -/
structure VSt (base gl : Nat) (K : Nat → List Int) (vs : List Value) (up : Bool) (lp bU bL bY bV : Nat) (W : World) : Prop where
  u : W.heap[bU]? = some (.cells #[.bool up] 4 (0, 0))
  l : LsAt W bL gl vs.length
  y : W.heap[bY]? = some (.cells #[.func (.yield lp) #[] #[]] 105 (0, 0))
  v : W.heap[bV]? = some (.cells #[.func (.func 97) #[] #[.pointer (some ⟨bU, 0, none⟩), .pointer (some ⟨bY, 0, none⟩), .pointer (some ⟨bL, 0, none⟩), .pointer (some ⟨bV, 0, none⟩)]] 105 (0, 0))
  r : Rws base gl K vs W
def VR (gl : Nat) (vs : List Value) (bU bL bY bV : Nat) (k : Nat) : Prop := k = bU ∨ k = bL ∨ k = bY ∨ k = bV ∨ k = gl ∨ ∃ (i : Nat) (v : Value), vs[i]? = some v ∧ v.ownBlock = some k
section
variable {base gl : Nat} {K : Nat → List Int} {vs : List Value} {up : Bool} {lp bU bL bY bV : Nat} {W W' : World}
theorem VSt.lt (h : VSt base gl K vs up lp bU bL bY bV W) {k : Nat} (hk : VR gl vs bU bL bY bV k) : k < W.heap.size := by
  rcases hk with rfl | rfl | rfl | rfl | rfl | ⟨i, v, hv, hb⟩
  · exact lt_of_block h.u
  · exact h.l.lt
  · exact lt_of_block h.y
  · exact lt_of_block h.v
  · exact h.r.lt
  · exact ((h.r.ow i v hv).lt k hb).2
theorem own_same {w w' : World} {base : Nat} {e : TypeId} {size n : Nat} {v : Value} {xs : List Value} (h : w.ownsRow base e size v n xs) (hs : ∀ k, v.ownBlock = some k → w'.heap[k]? = w.heap[k]?) : w'.ownsRow base e size v n xs := by
  refine ⟨h.1, ?_⟩
  rcases h.2 with h2 | ⟨g, cap, cur, rfl, hb, hh, r⟩
  · exact .inl h2
  · exact .inr ⟨g, cap, cur, rfl, hb, by rw [hs g rfl]; exact hh, r⟩
theorem VSt.same (h : VSt base gl K vs up lp bU bL bY bV W) (hs : ∀ k, VR gl vs bU bL bY bV k → W'.heap[k]? = W.heap[k]?) : VSt base gl K vs up lp bU bL bY bV W' :=
  ⟨(hs _ (.inl rfl)).trans h.u, h.l.same (hs _ (.inr (.inl rfl))), (hs _ (.inr (.inr (.inl rfl)))).trans h.y, (hs _ (.inr (.inr (.inr (.inl rfl))))).trans h.v,
    ⟨h.r.hd.same (hs _ (.inr (.inr (.inr (.inr (.inl rfl)))))), fun i v hv => own_same (h.r.ow i v hv) fun k hk => hs k (.inr (.inr (.inr (.inr (.inr ⟨i, v, hv, hk⟩))))), h.r.ap, h.r.ne, h.r.ge⟩⟩
theorem VSt.keep {M M' : Nat → Prop} (h : VSt base gl K vs up lp bU bL bY bV W) (hm : ∀ k, VR gl vs bU bL bY bV k → ¬ M k) (hk : Keep2 M M' W W') : VSt base gl K vs up lp bU bL bY bV W' ∧ ∀ k, VR gl vs bU bL bY bV k → ¬ M' k :=
  ⟨h.same fun k hr => hk.2.1 k (h.lt hr) (hm k hr), fun k hr hm' => by
    rcases hk.2.2 k hm' with h1 | h1
    · exact hm k hr h1
    · have := h.lt hr
      omega⟩
end
end Go.Proofs.YtnkojoajcdhngaaDoor

/- Layer 8: the walk below a node: the closure's contract (each ahead of its kids). -/
namespace Go.Proofs.YtnkojoajcdhngaaDoor
set_option linter.unusedVariables false
set_option linter.unusedSimpArgs false
set_option maxRecDepth 100000
open Go.RowKit Go.Shelf Go.Lib
attribute [local go_sem] Oper.semAt_some
set_option maxRecDepth 100000
set_option maxHeartbeats 16000000

def VPost (base gl : Nat) (K : Nat → List Int) (vs : List Value) (up : Bool) (lp bU bL bY bV : Nat) (J Jx : List (Int × Int) → (Nat → Prop) → World → Prop) (pre sub : List (Int × Int)) (e : Ending) (W' : World) : Prop :=
  (e = .returned (.bool true) ∧ ∃ M', J (pre ++ sub) M' W' ∧ VSt base gl K vs up lp bU bL bY bV W' ∧ ∀ k, VR gl vs bU bL bY bV k → ¬ M' k) ∨ (e = .returned (.bool false) ∧ ∃ p M', p <+: sub ∧ Jx (pre ++ p) M' W')
def flatK (K : Nat → List Int) (up : Bool) (f : Nat) (d : Int) (ks : List Int) : List (Int × Int) := ks.flatMap fun k => subF K up f k (d + 1)
theorem flatK_cons (K : Nat → List Int) (up : Bool) (f : Nat) (d : Int) (k : Int) (ks : List Int) : flatK K up f d (k :: ks) = subF K up f k (d + 1) ++ flatK K up f d ks := rfl
theorem flatK_take {K : Nat → List Int} {up : Bool} {f : Nat} {d : Int} {ks : List Int} {j : Nat} (hj : j < ks.length) : flatK K up f d (ks.take (j + 1)) = flatK K up f d (ks.take j) ++ subF K up f ks[j] (d + 1) := by
  rw [List.take_succ_eq_append_getElem hj]
  unfold flatK
  rw [List.flatMap_append]
  simp
theorem flatK_pre {K : Nat → List Int} {up : Bool} {f : Nat} {d : Int} {ks : List Int} (j : Nat) : flatK K up f d (ks.take j) <+: flatK K up f d ks := by
  refine ⟨flatK K up f d (ks.drop j), ?_⟩
  unfold flatK
  rw [← List.flatMap_append, List.take_append_drop]
def jOf (n : Nat) (v : Value) : Nat := match v with | .int _ j => n - j.toNat | _ => 0
theorem visit_down {base gl : Nat} {K : Nat → List Int} {vs : List Value} {lp bU bL bY bV : Nat} {J Jx : List (Int × Int) → (Nat → Prop) → World → Prop} {Sp : List (Int × Int) → Prop} (hvs : vs.length ≤ 1000000) (hks : ∀ i, (K i).length ≤ 9000000000000000)
    (hY : ∀ (m : Nat) pre x M W1, J pre M W1 → Sp (pre ++ [x]) → YieldAt Fence.wide m Tryd.prog lp #[.int .i64 x.1, .int .i64 x.2] W1 fun e W' => (e = .returned (.bool true) ∧ ∃ M', J (pre ++ [x]) M' W' ∧ Keep2 M M' W1 W') ∨ (e = .returned (.bool false) ∧ ∃ M', Jx (pre ++ [x]) M' W')) :
    ∀ (f : Nat) (i d : Int) (n : Nat) (pre : List (Int × Int)) (M : Nat → Prop) (W : World), Dep K vs.length f i → 0 ≤ d → d + f ≤ 1000000 → J pre M W → VSt base gl K vs false lp bU bL bY bV W → (∀ k, VR gl vs bU bL bY bV k → ¬ M k) → (∀ p, p <+: subF K false f i d → Sp (pre ++ p)) →
      CallsIn Fence.wide n Tryd.prog 97 #[.int .i64 i, .int .i64 d, .pointer (some ⟨bU, 0, none⟩), .pointer (some ⟨bY, 0, none⟩), .pointer (some ⟨bL, 0, none⟩), .pointer (some ⟨bV, 0, none⟩)] W (VPost base gl K vs false lp bU bL bY bV J Jx pre (subF K false f i d))
  | 0, _, _, _, _, _, _, h, _, _, _, _, _, _ => h.elim
  | f + 1, i, d, n, pre, M, W, hD, hd0, hd1, hJ, hS, hM, hP => by
    have IH := visit_down (base := base) (gl := gl) (K := K) (vs := vs) (bU := bU) (bL := bL) (bY := bY) (bV := bV) hvs hks hY f
    obtain ⟨hi0, hi1, hDk⟩ := hD
    obtain ⟨fn, tmps, assign, body, hy, hRd⟩ := hY (n - 1) pre (i, d) M W hJ (hP [(i, d)] (by simp [subF]))
    have cu : W.cell? ⟨bU, 0, none⟩ = some (.bool false) := by rw [blk_cell hS.u]; rfl
    have cy : W.cell? ⟨bY, 0, none⟩ = some (.func (.yield lp) #[] #[]) := by rw [blk_cell hS.y]; rfl
    have HIH := hid IH
    have HP := hid hP
    have HS := hid hS
    have HM := hid hM
    have HDK := hid hDk
    clear IH hP hS hM hDk hJ hY
    refine callsIn_of_wp Tryd.func97 rfl trivial ?_ rfl
    simp only [Tryd.ntmps97, List.size_toArray, List.length_cons, List.length_nil, Nat.reduceAdd, Nat.reduceSub, Array.replicate_succ, Array.replicate_zero, List.push_toArray, List.append_toArray, List.nil_append, List.cons_append]
    gi_wp2
    refine ⟨fun h => (by cases h), hRd.mono ?_⟩
    rintro e W1 (⟨rfl, M1, hJ1, hk1⟩ | ⟨rfl, M1, hJx1⟩)
    · obtain ⟨hS1, hM1⟩ := HS.out.keep HM.out hk1
      have HP1 := HP
      obtain ⟨v, hv⟩ : ∃ v, vs[i.toNat]? = some v := ⟨_, List.getElem?_eq_getElem (by omega)⟩
      have hown := hS1.r.ow _ _ hv
      obtain ⟨Av, cv, rfl⟩ := own_shape hown
      have hAv := At.of_own hown
      have hAb : ∀ b, (Value.slice Av (K i.toNat).length cv).ownBlock = some b → VR gl vs bU bL bY bV b := fun b hb => .inr (.inr (.inr (.inr (.inr ⟨_, _, hv, hb⟩))))
      obtain ⟨ks, hks'⟩ : ∃ ks, K i.toNat = ks := ⟨_, rfl⟩
      have hkl := hks i.toNat
      have hDK := HDK.out
      rw [hks'] at hown hAv hAb hkl hDK
      have hsub : subF K false (f + 1) i d = (i, d) :: flatK K false f d ks := by
        unfold subF flatK
        rw [hks']
        simp
      have HSUB := hid hsub
      obtain ⟨n0, hn0⟩ : ∃ n0 : Nat, ks.length = n0 := ⟨_, rfl⟩
      have HN0 := hid hn0
      have HV := hid hv
      have HK := hid hks'
      have HS1 := hid hS1
      have HM1 := hid hM1
      have HDK1 := hid hDK
      have cu1 : W1.cell? ⟨bU, 0, none⟩ = some (.bool false) := by rw [blk_cell hS1.u]; rfl
      obtain ⟨capL, cl1⟩ := hS1.l.cell
      have cr1 : W1.cell? ⟨gl, i.toNat, none⟩ = some (.slice Av ks.length cv) := by rw [← hks']; exact hS1.r.hd.cell hv
      have hil : i < (vs.length : Int) := hi1
      obtain ⟨nv, hnv⟩ : ∃ nv, vs.length = nv := ⟨_, rfl⟩
      rw [hnv] at cl1 hil
      rw [hn0] at cr1 hkl
      clear hks hS1 hM1 hv hown hAv hAb hDK hks' hsub hn0 hk1 hRd hy HDK HS HM hvs
      gi_wp2
      gi_loopw [25] (fun v wr => ∃ (j : Nat) (M2 : Nat → Prop), v = .int .i64 (j : Int) ∧ j ≤ n0 ∧ J (pre ++ ((i, d) :: flatK K false f d (ks.take j))) M2 wr ∧ Hid (VSt base gl K vs false lp bU bL bY bV wr) ∧ Hid (∀ k, VR gl vs bU bL bY bV k → ¬ M2 k)) (fun v _ => jOf n0 v)
      case atStart => exact ⟨0, M1, rfl, by omega, by simpa [flatK] using hJ1, HS1, HM1⟩
      case round =>
        obtain ⟨j, M2, rfl, hj, hJ2, HS2, HM2⟩ := hrel
        by_cases hlt : j < n0
        · have hji : (j : Int) < (n0 : Int) := by omega
          have hjk : j < ks.length := by have := HN0.out; omega
          have hown2 := HS2.out.r.ow _ _ HV.out
          rw [HK.out] at hown2
          obtain ⟨Ar, rfl, _, hAr⟩ := own_head hown2 (by omega)
          have hat := At.of_own hown2
          have cj : wr.cell? ⟨Ar, j, none⟩ = some (.int .i64 (ks[j]'hjk)) := by
            obtain ⟨g2, o2, e2, _, hc2⟩ := hat (by rw [ints_len]; omega)
            cases e2
            simpa using hc2 j _ (by rw [ints_get, List.getElem?_eq_getElem hjk]; rfl)
          have cl2 : wr.cell? ⟨bY, 0, none⟩ = some (.func (.yield lp) #[] #[]) := by rw [blk_cell HS2.out.y]; rfl
          have cv2 : wr.cell? ⟨bV, 0, none⟩ = some (.func (.func 97) #[] #[.pointer (some ⟨bU, 0, none⟩), .pointer (some ⟨bY, 0, none⟩), .pointer (some ⟨bL, 0, none⟩), .pointer (some ⟨bV, 0, none⟩)]) := by rw [blk_cell HS2.out.v]; rfl
          have hsp : ∀ p, p <+: subF K false f (ks[j]'hjk) (d + 1) → Sp (pre ++ ((i, d) :: flatK K false f d (ks.take j)) ++ p) := by
            intro p hp
            rw [List.append_assoc]
            refine HP1.out _ ?_
            rw [HSUB.out]
            refine List.prefix_cons_inj _ |>.2 ?_
            refine List.IsPrefix.trans ((List.prefix_append_right_inj _).2 hp) ?_
            rw [← flatK_take hjk]
            exact flatK_pre (j + 1)
          have C := HIH.out (ks[j]'hjk) (d + 1) (n - 1) _ M2 wr (HDK1.out _ (List.getElem_mem hjk)) (by omega) (by omega) hJ2 HS2.out HM2.out hsp
          have HC := hid C
          obtain ⟨kj, hkj⟩ : ∃ kj, ks[j]'hjk = kj := ⟨_, rfl⟩
          clear hown2 hat C hsp
          have hk2 : 0 ≤ kj := by
            rw [← hkj]
            exact (HDK1.out _ (List.getElem_mem hjk)).nonneg
          gi_wp2_with (refine ⟨trivial, fun h => (by cases h), ?_⟩; rw [hkj] at HC; refine HC.out.mono ?_; rintro e w9 (⟨rfl, M3, hJ3, hS3, hM3⟩ | ⟨rfl, p, M3, hp3, hJx3⟩))
          · gi_wp2
            refine ⟨⟨j + 1, M3, by go_num, by omega, ?_, hid hS3, hid hM3⟩, ?_⟩
            · rw [flatK_take hjk, hkj]
              rw [List.append_assoc] at hJ3
              exact hJ3
            · show n0 - ((j : Int) + 1).toNat < n0 - ((j : Int)).toNat
              omega
          · gi_wp2
            have hp4 : ((i, d) :: flatK K false f d (ks.take j)) ++ p <+: subF K false (f + 1) i d := by
              rw [HSUB.out]
              refine List.prefix_cons_inj _ |>.2 ?_
              rw [← hkj] at hp3
              refine List.IsPrefix.trans ((List.prefix_append_right_inj _).2 hp3) ?_
              rw [← flatK_take hjk]
              exact flatK_pre (j + 1)
            refine bodyPost_ret (v := .bool false) (by simp [results, Tryd.results97, go_sem, *]) rfl (.inr ⟨rfl, _, M3, hp4, by rw [List.append_assoc] at hJx3; exact hJx3⟩)
        · have q : ¬ (j : Int) < (n0 : Int) := by omega
          have hjn : j = n0 := by omega
          have hend : flatK K false f d (ks.take j) = flatK K false f d ks := by rw [List.take_of_length_le (by have := HN0.out; omega)]
          have HF := hid (show VPost base gl K vs false lp bU bL bY bV J Jx pre (subF K false (f + 1) i d) (.returned (.bool true)) wr from .inl ⟨rfl, M2, by rw [HSUB.out, ← hend]; exact hJ2, HS2.out, HM2.out⟩)
          have cu2 : wr.cell? ⟨bU, 0, none⟩ = some (.bool false) := by rw [blk_cell HS2.out.u]; rfl
          clear hend hJ2 HS2 HM2
          gi_wp2
          refine ⟨fun _ h => (by cases h), ?_⟩
          gi_wp2
          refine bodyPost_ret (v := .bool true) (by simp [results, Tryd.results97, go_sem, *]) rfl HF.out
    · have hpp : [(i, d)] <+: subF K false (f + 1) i d := by simp [subF]
      have HF := hid (show VPost base gl K vs false lp bU bL bY bV J Jx pre (subF K false (f + 1) i d) (.returned (.bool false)) W1 from .inr ⟨rfl, [(i, d)], M1, hpp, hJx1⟩)
      clear hpp hJx1
      gi_wp2
      refine bodyPost_ret (v := .bool false) (by simp [results, Tryd.results97, go_sem, *]) rfl HF.out
end Go.Proofs.YtnkojoajcdhngaaDoor

/- Layer 8: the walk below a node: the closure's contract (each behind what is below it). -/
namespace Go.Proofs.YtnkojoajcdhngaaDoor
set_option linter.unusedVariables false
set_option linter.unusedSimpArgs false
set_option maxRecDepth 100000
open Go.RowKit Go.Shelf Go.Lib
attribute [local go_sem] Oper.semAt_some
set_option maxRecDepth 100000
set_option maxHeartbeats 16000000

theorem visit_up {base gl : Nat} {K : Nat → List Int} {vs : List Value} {lp bU bL bY bV : Nat} {J Jx : List (Int × Int) → (Nat → Prop) → World → Prop} {Sp : List (Int × Int) → Prop} (hvs : vs.length ≤ 1000000) (hks : ∀ i, (K i).length ≤ 9000000000000000)
    (hY : ∀ (m : Nat) pre x M W1, J pre M W1 → Sp (pre ++ [x]) → YieldAt Fence.wide m Tryd.prog lp #[.int .i64 x.1, .int .i64 x.2] W1 fun e W' => (e = .returned (.bool true) ∧ ∃ M', J (pre ++ [x]) M' W' ∧ Keep2 M M' W1 W') ∨ (e = .returned (.bool false) ∧ ∃ M', Jx (pre ++ [x]) M' W')) :
    ∀ (f : Nat) (i d : Int) (n : Nat) (pre : List (Int × Int)) (M : Nat → Prop) (W : World), Dep K vs.length f i → 0 ≤ d → d + f ≤ 1000000 → J pre M W → VSt base gl K vs true lp bU bL bY bV W → (∀ k, VR gl vs bU bL bY bV k → ¬ M k) → (∀ p, p <+: subF K true f i d → Sp (pre ++ p)) →
      CallsIn Fence.wide n Tryd.prog 97 #[.int .i64 i, .int .i64 d, .pointer (some ⟨bU, 0, none⟩), .pointer (some ⟨bY, 0, none⟩), .pointer (some ⟨bL, 0, none⟩), .pointer (some ⟨bV, 0, none⟩)] W (VPost base gl K vs true lp bU bL bY bV J Jx pre (subF K true f i d))
  | 0, _, _, _, _, _, _, h, _, _, _, _, _, _ => h.elim
  | f + 1, i, d, n, pre, M, W, hD, hd0, hd1, hJ, hS, hM, hP => by
    have IH := visit_up (base := base) (gl := gl) (K := K) (vs := vs) (bU := bU) (bL := bL) (bY := bY) (bV := bV) hvs hks hY f
    obtain ⟨hi0, hi1, hDk⟩ := hD
    have cu : W.cell? ⟨bU, 0, none⟩ = some (.bool true) := by rw [blk_cell hS.u]; rfl
    have HIH := hid IH
    have HP := hid hP
    have HS := hid hS
    have HM := hid hM
    have HDK := hid hDk
    have HY := hid hY
    clear IH hP hS hM hDk hY
    refine callsIn_of_wp Tryd.func97 rfl trivial ?_ rfl
    simp only [Tryd.ntmps97, List.size_toArray, List.length_cons, List.length_nil, Nat.reduceAdd, Nat.reduceSub, Array.replicate_succ, Array.replicate_zero, List.push_toArray, List.append_toArray, List.nil_append, List.cons_append]
    have hS0 := HS.out
    have HP1 := HP
    obtain ⟨v, hv⟩ : ∃ v, vs[i.toNat]? = some v := ⟨_, List.getElem?_eq_getElem (by omega)⟩
    have hown := hS0.r.ow _ _ hv
    obtain ⟨Av, cv, rfl⟩ := own_shape hown
    have hAv := At.of_own hown
    have hAb : ∀ b, (Value.slice Av (K i.toNat).length cv).ownBlock = some b → VR gl vs bU bL bY bV b := fun b hb => .inr (.inr (.inr (.inr (.inr ⟨_, _, hv, hb⟩))))
    obtain ⟨ks, hks'⟩ : ∃ ks, K i.toNat = ks := ⟨_, rfl⟩
    have hkl := hks i.toNat
    have hDK := HDK.out
    rw [hks'] at hown hAv hAb hkl hDK
    have hsub : subF K true (f + 1) i d = flatK K true f d ks ++ [(i, d)] := by
      unfold subF flatK
      rw [hks']
      simp
    have HSUB := hid hsub
    obtain ⟨n0, hn0⟩ : ∃ n0 : Nat, ks.length = n0 := ⟨_, rfl⟩
    have HN0 := hid hn0
    have HV := hid hv
    have HK := hid hks'
    have HDK1 := hid hDK
    obtain ⟨capL, cl1⟩ := hS0.l.cell
    have cr1 : W.cell? ⟨gl, i.toNat, none⟩ = some (.slice Av ks.length cv) := by rw [← hks']; exact hS0.r.hd.cell hv
    have hil : i < (vs.length : Int) := hi1
    obtain ⟨nv, hnv⟩ : ∃ nv, vs.length = nv := ⟨_, rfl⟩
    rw [hnv] at cl1 hil
    rw [hn0] at cr1 hkl
    clear hks hS0 hv hown hAv hAb hDK hks' hsub hn0 HDK hvs
    gi_wp2
    refine ⟨fun _ h => (by cases h), ?_⟩
    gi_wp2
    gi_loopw [25] (fun v wr => ∃ (j : Nat) (M2 : Nat → Prop), v = .int .i64 (j : Int) ∧ j ≤ n0 ∧ J (pre ++ flatK K true f d (ks.take j)) M2 wr ∧ Hid (VSt base gl K vs true lp bU bL bY bV wr) ∧ Hid (∀ k, VR gl vs bU bL bY bV k → ¬ M2 k)) (fun v _ => jOf n0 v)
    case atStart => exact ⟨0, M, rfl, by omega, by simpa [flatK] using hJ, HS, HM⟩
    case round =>
      obtain ⟨j, M2, rfl, hj, hJ2, HS2, HM2⟩ := hrel
      by_cases hlt : j < n0
      · have hji : (j : Int) < (n0 : Int) := by omega
        have hjk : j < ks.length := by have := HN0.out; omega
        have hown2 := HS2.out.r.ow _ _ HV.out
        rw [HK.out] at hown2
        obtain ⟨Ar, rfl, _, hAr⟩ := own_head hown2 (by omega)
        have hat := At.of_own hown2
        have cj : wr.cell? ⟨Ar, j, none⟩ = some (.int .i64 (ks[j]'hjk)) := by
          obtain ⟨g2, o2, e2, _, hc2⟩ := hat (by rw [ints_len]; omega)
          cases e2
          simpa using hc2 j _ (by rw [ints_get, List.getElem?_eq_getElem hjk]; rfl)
        have cl2 : wr.cell? ⟨bY, 0, none⟩ = some (.func (.yield lp) #[] #[]) := by rw [blk_cell HS2.out.y]; rfl
        have cv2 : wr.cell? ⟨bV, 0, none⟩ = some (.func (.func 97) #[] #[.pointer (some ⟨bU, 0, none⟩), .pointer (some ⟨bY, 0, none⟩), .pointer (some ⟨bL, 0, none⟩), .pointer (some ⟨bV, 0, none⟩)]) := by rw [blk_cell HS2.out.v]; rfl
        have hsp : ∀ p, p <+: subF K true f (ks[j]'hjk) (d + 1) → Sp (pre ++ flatK K true f d (ks.take j) ++ p) := by
          intro p hp
          rw [List.append_assoc]
          refine HP1.out _ ?_
          rw [HSUB.out]
          refine List.IsPrefix.trans ?_ (List.prefix_append _ _)
          refine List.IsPrefix.trans ((List.prefix_append_right_inj _).2 hp) ?_
          rw [← flatK_take hjk]
          exact flatK_pre (j + 1)
        have C := HIH.out (ks[j]'hjk) (d + 1) (n - 1) _ M2 wr (HDK1.out _ (List.getElem_mem hjk)) (by omega) (by omega) hJ2 HS2.out HM2.out hsp
        have HC := hid C
        obtain ⟨kj, hkj⟩ : ∃ kj, ks[j]'hjk = kj := ⟨_, rfl⟩
        clear hown2 hat C hsp
        have hk2 : 0 ≤ kj := by
          rw [← hkj]
          exact (HDK1.out _ (List.getElem_mem hjk)).nonneg
        gi_wp2_with (refine ⟨trivial, fun h => (by cases h), ?_⟩; rw [hkj] at HC; refine HC.out.mono ?_; rintro e w9 (⟨rfl, M3, hJ3, hS3, hM3⟩ | ⟨rfl, p, M3, hp3, hJx3⟩))
        · gi_wp2
          refine ⟨⟨j + 1, M3, by go_num, by omega, ?_, hid hS3, hid hM3⟩, ?_⟩
          · rw [flatK_take hjk, hkj]
            rw [List.append_assoc] at hJ3
            exact hJ3
          · show n0 - ((j : Int) + 1).toNat < n0 - ((j : Int)).toNat
            omega
        · gi_wp2
          have hp4 : flatK K true f d (ks.take j) ++ p <+: subF K true (f + 1) i d := by
            rw [HSUB.out]
            refine List.IsPrefix.trans ?_ (List.prefix_append _ _)
            rw [← hkj] at hp3
            refine List.IsPrefix.trans ((List.prefix_append_right_inj _).2 hp3) ?_
            rw [← flatK_take hjk]
            exact flatK_pre (j + 1)
          refine bodyPost_ret (v := .bool false) (by simp [results, Tryd.results97, go_sem, *]) rfl (.inr ⟨rfl, _, M3, hp4, by rw [List.append_assoc] at hJx3; exact hJx3⟩)
      · have q : ¬ (j : Int) < (n0 : Int) := by omega
        have hjn : j = n0 := by omega
        have hend : flatK K true f d (ks.take j) = flatK K true f d ks := by rw [List.take_of_length_le (by have := HN0.out; omega)]
        rw [hend] at hJ2
        have hps : pre ++ flatK K true f d ks ++ [(i, d)] = pre ++ subF K true (f + 1) i d := by rw [HSUB.out, List.append_assoc]
        obtain ⟨fn, tmps, assign, body, hy, hRd⟩ := HY.out (n - 1) (pre ++ flatK K true f d ks) (i, d) M2 wr hJ2 (by rw [hps]; exact HP1.out _ (List.prefix_refl _))
        have cu2 : wr.cell? ⟨bU, 0, none⟩ = some (.bool true) := by rw [blk_cell HS2.out.u]; rfl
        have cy2 : wr.cell? ⟨bY, 0, none⟩ = some (.func (.yield lp) #[] #[]) := by rw [blk_cell HS2.out.y]; rfl
        have HPS := hid hps
        clear hend hJ2 hps
        gi_wp2
        refine ⟨fun h => (by cases h), hRd.mono ?_⟩
        rintro e W1 (⟨rfl, M1, hJ1, hk1⟩ | ⟨rfl, M1, hJx1⟩)
        · obtain ⟨hS1, hM1⟩ := HS2.out.keep HM2.out hk1
          rw [HPS.out] at hJ1
          have HF := hid (show VPost base gl K vs true lp bU bL bY bV J Jx pre (subF K true (f + 1) i d) (.returned (.bool true)) W1 from .inl ⟨rfl, M1, hJ1, hS1, hM1⟩)
          clear hJ1 hk1 hS1 hM1 HS2 HM2
          gi_wp2
          refine bodyPost_ret (v := .bool true) (by simp [results, Tryd.results97, go_sem, *]) rfl HF.out
        · rw [HPS.out] at hJx1
          have HF := hid (show VPost base gl K vs true lp bU bL bY bV J Jx pre (subF K true (f + 1) i d) (.returned (.bool false)) W1 from .inr ⟨rfl, _, M1, List.prefix_refl _, hJx1⟩)
          clear hJx1 HS2 HM2
          gi_wp2
          refine bodyPost_ret (v := .bool false) (by simp [results, Tryd.results97, go_sem, *]) rfl HF.out
end Go.Proofs.YtnkojoajcdhngaaDoor
