/- Layer 8: taken. -/
import Derived.Test.YtnkojoajcdhngaaDoorTr24
import Derived.Test.YtnkojoajcdhngaaDoorTr22
namespace Go.Proofs.YtnkojoajcdhngaaDoor
set_option linter.unusedVariables false
set_option linter.unusedSimpArgs false
set_option maxRecDepth 100000
open Go.RowKit Go.Shelf Go.Lib
attribute [local go_sem] Oper.semAt_some
set_option maxRecDepth 100000
set_option maxHeartbeats 16000000

theorem Rws.put {base gl : Nat} {K : Nat → List Int} {vs : List Value} {w w' : World} (h : Rws base gl K vs w) (i : Nat) (v v' : Value) (k : List Int) (hv : vs[i]? = some v) (hg : w.grownBy w' v.ownBlock) (ho : w'.ownsRow base 3 1 v' k.length (ints k)) (hk : ∀ b, v'.ownBlock = some b → v.ownBlock = some b ∨ w.heap.size ≤ b) :
    Rws base gl (fun j => if j = i then k else K j) (vs.set i v') (w'.setCell ⟨gl, i, none⟩ v') := by
  have hgl : v.ownBlock ≠ some gl := fun e => h.ne i v gl hv e rfl
  have hlt := h.lt
  have hvg : v'.ownBlock ≠ some gl := fun e => by
    rcases hk gl e with h1 | h1
    · exact hgl h1
    · omega
  refine ⟨(h.hd.same (hg.block gl hlt (fun e => hgl e.symm))).set i v', fun j u hu => ?_, fun j l u u' c hu hu' hne hc => ?_, fun j u c hu hc => ?_, h.ge⟩
  · rw [List.getElem?_set] at hu
    split at hu
    · rename_i e
      subst e
      split at hu
      · cases hu
        rw [if_pos rfl]
        exact own_off ho hvg
      · cases hu
    · rename_i e
      rw [if_neg (fun e' => e e'.symm)]
      refine own_off ((h.ow j u hu).kept hg ?_) (fun e' => h.ne j u gl hu e' rfl)
      cases hub : u.ownBlock with
      | none => exact .inl rfl
      | some b => exact .inr fun e2 => h.ap j i u v b hu hv (fun e' => e e'.symm) hub e2.symm
  · rw [List.getElem?_set] at hu hu'
    have hlt2 : ∀ (j : Nat) (u : Value) (b : Nat), vs[j]? = some u → u.ownBlock = some b → b < w.heap.size := fun j u b hj hb => ((h.ow j u hj).lt b hb).2
    split at hu
    · rename_i e
      subst e
      rw [if_neg (fun e' => hne e')] at hu'
      split at hu
      · cases hu
        intro e'
        rcases hk c hc with h3 | h3
        · exact h.ap i l v u' c hv hu' hne h3 e'
        · have := hlt2 l u' c hu' e'
          omega
      · cases hu
    · split at hu'
      · rename_i e
        subst e
        split at hu'
        · cases hu'
          intro e'
          rcases hk c e' with h3 | h3
          · exact h.ap j i u v c hu hv hne hc h3
          · have := hlt2 j u c hu hc
            omega
        · cases hu'
      · exact h.ap j l u u' c hu hu' hne hc
  · rw [List.getElem?_set] at hu
    split at hu
    · split at hu
      · cases hu
        intro e
        exact hvg (by rw [hc, e])
      · cases hu
    · exact h.ne j u c hu hc
def takF (L : List Nd) (node : Int) (i : Nat) : List Int := (kidF L L.length i).filter fun x => !(x == node)
def TakP (w : World) (L : List Nd) (node : Int) (e : Ending) (w' : World) : Prop := ∃ (gl : Nat) (vs : List Value), e = .returned (.slice (some ⟨gl, 0, none⟩) L.length L.length) ∧ vs.length = L.length ∧ Rws w.heap.size gl (takF L node) vs w' ∧ Below w.heap.size w w'
theorem taken_any {B : Nat} (L : List Nd) (hok : ∀ n ∈ L, n.ok) (A : Option Addr) (c : Nat) (node : Int) (w : World) (hA : NdsAt B w A L) (hB : B ≤ w.heap.size) (hl : L.length ≤ 1000000) (hkl : ∀ i, (kidF L L.length i).length ≤ 1000000) :
    Calls Tryd.prog 59 #[.agg #[.slice A L.length c], .int .i64 node] w (TakP w L node) := by
  obtain ⟨n, hn⟩ : ∃ n, w.heap.size = n := ⟨_, rfl⟩
  obtain ⟨W, hW⟩ : ∃ W, allocs w [Obj.cells #[.slice A L.length c] 25 (0, 0), Obj.cells #[.int .i64 node] 3 (0, 0)] = W := ⟨_, rfl⟩
  have g0 := allocs_get [Obj.cells #[.slice A L.length c] 25 (0, 0), Obj.cells #[.int .i64 node] 3 (0, 0)] w 0 _ rfl
  have g1 := allocs_get [Obj.cells #[.slice A L.length c] 25 (0, 0), Obj.cells #[.int .i64 node] 3 (0, 0)] w 1 _ rfl
  have hbl := allocs_below [Obj.cells #[.slice A L.length c] 25 (0, 0), Obj.cells #[.int .i64 node] 3 (0, 0)] w
  rw [hW] at g0 g1 hbl
  rw [hn] at g0 g1 hbl
  have hs1 := hbl.size
  have C := kids_any L hok A c W (hA.below (hbl.mono (by omega))) (by omega) hl
  unfold KidsP at C
  have B0 : Box1 W n _ := Box1.of_heap g0
  have B1 : Box1 W (n + 1) _ := Box1.of_heap g1
  simp only [allocs] at hW
  have HW := hid hW
  have HBL := hid hbl
  have HB1 := hid B1
  have HN := hid hn
  have HKL := hid hkl
  have k0 := B0.c
  obtain ⟨m, hm⟩ : ∃ m, L.length = m := ⟨_, rfl⟩
  have HM := hid hm
  rw [hm] at C HW k0 HKL hl ⊢
  clear hm hA hok hW hbl g0 g1 hn B0 B1 hkl
  go_enter Tryd.func59, Tryd.ntmps59
  go_upto_region 1 with fail
  rw [HW.out, HN.out]
  go_wp2_with fail
  with_reducible refine C.mono ?_
  rintro e w2 ⟨gl, vs, rfl, hvl, hR2, hb2⟩
  have l1 := HB1.out.lt
  have HF2 := hid (show Rws n gl (fun j => if j < 0 then takF L node j else kidF L m j) vs w2 from by
    have : (fun j => if j < 0 then takF L node j else kidF L m j) = kidF L m := by funext j; rw [if_neg (by omega)]
    rw [this]
    exact ⟨hR2.hd, fun i v hv => own_mono (hR2.ow i v hv) (by omega), hR2.ap, hR2.ne, by have := hR2.ge; omega⟩)
  have HB2 := hid (HBL.out.trans (hb2.mono (by omega)))
  have hgl2 := hR2.ge
  have hX1 := hid ((HB1.out.below hb2 HB1.out.lt))
  have hbs : ∀ (i : Nat) (v : Value) (k : Nat), vs[i]? = some v → v.ownBlock = some k → k ≠ n + 1 := fun i v k hv hk => by have := ((hR2.ow i v hv).lt k hk).1; have := HB1.out.lt; omega
  have HBS := hid hbs
  clear C k0 hb2 hR2 hbs
  go_wp2
  go_loopg [11] m (fun gh v11 wr => ∃ (i : Nat) (us : List Value), v11 = .int .i64 (i : Int) ∧ i ≤ m ∧ m - i ≤ gh ∧ us.length = m ∧ Hid (Rws n gl (fun j => if j < i then takF L node j else kidF L m j) us wr) ∧ Hid (Below n w wr) ∧ Hid (Box1 wr (n + 1) (.int .i64 node)) ∧ Hid (∀ (i : Nat) (v : Value) (k : Nat), us[i]? = some v → v.ownBlock = some k → k ≠ n + 1))
  case atStart => exact ⟨0, vs, rfl, by omega, by omega, hvl, HF2, HB2, hX1, HBS⟩
  case round =>
    obtain ⟨i, us, rfl, hi, hgh, hul, HRr, HBr, HXr, HBSr⟩ := hrel
    by_cases hlt : i < m
    · have hli : (i : Int) < (m : Int) := by omega
      obtain ⟨v, hv⟩ : ∃ v, us[i]? = some v := ⟨_, List.getElem?_eq_getElem (by omega)⟩
      have cgl := HRr.out.hd.cell hv
      have lgl := HRr.out.lt
      have how := HRr.out.ow _ _ hv
      simp only [if_neg (Nat.lt_irrefl i)] at how
      have CD := delete_any v _ n _ node (n + 1) wr how HXr.out.c (fun e => HBSr.out i v _ hv e rfl) (HKL.out i)
      obtain ⟨Av, cv, rfl⟩ := own_shape how
      obtain ⟨KX, hKX⟩ : ∃ KX, kidF L m i = KX := ⟨_, rfl⟩
      have HKX := hid hKX
      rw [hKX] at cgl CD how
      have HV := hid hv
      rw [hKX] at HV
      clear hKX hv how
      have hbr := HBr.out.size
      go_wp2_with fail
      with_reducible refine CD.mono ?_
      rintro e w5 ⟨v', rfl, ho', hk', hg'⟩
      obtain ⟨A', c', rfl⟩ := own_shape ho'
      have hgv : some gl ≠ (Value.slice Av KX.length cv).ownBlock := fun e => HRr.out.ne i _ gl HV.out e.symm rfl
      have hd5 := HRr.out.hd.same (hg'.block gl lgl hgv)
      have d5 := hd5.cell HV.out
      have f5 := hd5.froz i
      have l5 := hd5.lt
      have hP := HRr.out.put i _ (.slice A' (KX.filter fun x => !(x == node)).length c') (KX.filter fun x => !(x == node)) HV.out hg' (by
        exact ho') (fun b hb => .inl (hk' b hb))
      have hKe : (fun j => if j = i then KX.filter (fun x => !(x == node)) else if j < i then takF L node j else kidF L m j) = fun j => if j < i + 1 then takF L node j else kidF L m j := by
        funext j
        by_cases e : j = i
        · subst e
          rw [if_pos rfl, if_pos (by omega)]
          unfold takF
          rw [HM.out, HKX.out]
        · rw [if_neg e]
          by_cases e2 : j < i
          · rw [if_pos e2, if_pos (by omega)]
          · rw [if_neg e2, if_neg (by omega)]
      rw [hKe] at hP
      have hge : ∀ k, (Value.slice Av KX.length cv).ownBlock = some k → n ≤ k ∧ k ≠ n + 1 := fun k hk => ⟨own_ge (HRr.out.ow _ _ HV.out) k hk, HBSr.out i _ k HV.out hk⟩
      have glge := HRr.out.ge
      have HP9 := hid hP
      have HB9 := hid ((HBr.out.grown hg' (by omega) (fun k hk => (hge k hk).1)).setCell (p := ⟨gl, i, none⟩) (by show n ≤ gl; exact glge) (.slice A' (KX.filter fun x => !(x == node)).length c'))
      have HX9 := hid ((HXr.out.grown hg' (fun k hk => (hge k hk).2)).off (p := ⟨gl, i, none⟩) (by show n + 1 ≠ gl; omega) (.slice A' (KX.filter fun x => !(x == node)).length c'))
      have HBS9 := hid (show ∀ (j : Nat) (u : Value) (k : Nat), (us.set i (.slice A' (KX.filter fun x => !(x == node)).length c'))[j]? = some u → u.ownBlock = some k → k ≠ n + 1 from fun j u k hu hk => by
        rw [List.getElem?_set] at hu
        split at hu
        · split at hu
          · cases hu
            exact (hge k (hk' k hk)).2
          · cases hu
        · exact HBSr.out j u k hu hk)
      obtain ⟨ly, hly⟩ : ∃ ly, (KX.filter fun x => !(x == node)).length = ly := ⟨_, rfl⟩
      rw [hly] at HP9 HB9 HX9 HBS9 ⊢
      clear CD ho' hk' hg' hd5 hP hly cgl hKe
      go_wp2
      go_roundg (m - (i + 1))
      case measure => omega
      case rel => exact ⟨i + 1, _, by go_num, by omega, by omega, by rw [List.length_set]; exact hul, HP9, HB9, HX9, HBS9⟩
    · have q : ¬ (i : Int) < (m : Int) := by omega
      have him : i = m := by omega
      subst him
      have hRE := HRr.out
      have hKe : ∀ j, j < i → (fun j => if j < i then takF L node j else kidF L i j) j = takF L node j := fun j hj => by simp only [if_pos hj]
      have hKa : (fun j => if j < i then takF L node j else kidF L i j) = takF L node := by
        funext j
        by_cases e : j < i
        · rw [if_pos e]
        · rw [if_neg e]
          unfold takF kidF
          rw [HM.out, if_neg e]
          rfl
      rw [hKa] at hRE
      have HF := hid (show TakP w L node (.returned (.slice (some ⟨gl, 0, none⟩) i i)) wr from ⟨gl, us, by rw [HM.out], by rw [HM.out]; exact hul, by rw [HN.out]; exact hRE, by rw [HN.out]; exact HBr.out⟩)
      go_wp2
      refine bodyPost_ret (v := .slice (some ⟨gl, 0, none⟩) i i) (by simp [results, Tryd.results59, go_sem, *]) rfl HF.out
end Go.Proofs.YtnkojoajcdhngaaDoor
