/- Layer 21: the walk of KeysMatch. -/
import Derived.Test.YtddigbhijfpmkaaDoorKeLawA
namespace Go.Proofs.YtddigbhijfpmkaaDoor
set_option linter.unusedVariables false
set_option linter.unusedSimpArgs false
set_option maxRecDepth 100000
open Go.RowKit Go.Shelf Go.Lib
set_option maxRecDepth 100000
set_option maxHeartbeats 8000000

theorem info_str : (Tryd.prog.info? 9).map (fun i => (i.zero, i.size, i.bytes)) = some (some (.string { data := #[] }), 1, 16) := by kernel_rfl
section
variable {ops : Array Oper} {rest : List Oper} {o : Oper} {a : Act} {Q : Exit → Act → World → Prop} {w : World}
/-- 'append(out, l...)', out nil or owned, l any slice (nil too). -/
theorem append_many {E S : TypeId} {size bytes : Nat} {i0 : TypeInfo} {z : Value} (hu : Tryd.prog.underlying S = some (.slice E)) (hi : Tryd.prog.info? E = some i0) (hz0 : i0.zero = some z) (hz1 : i0.size = size) (hz2 : i0.bytes = bytes) (hzs : z.cells.size = size) (hsz : 0 < size)
    (hgd : o.guard = none) (s x : Operand) (ho : o.op = .call { callee := .builtin .append, args := #[s, x], argTypes := #[S, S] }) (base : Nat) (v : Value) (n : Nat) (xs : List Value) (A : Option Addr) (m c B : Nat) (ys : List Value)
    (hs : a.eval s = v) (hx : a.eval x = .slice A m c) (hnil : A = none → m = 0 ∧ c = 0) (hown : w.ownsRow base E size v n xs) (hy : At B w A ys) (hyl : ys.length = m * size) (h1 : ∀ u ∈ ys, u.oneCell' = true) (h63 : n + m ≤ maxLen) (hbytes : (n + m) * bytes ≤ 140737488355328) (hbase : base ≤ w.heap.size)
    (h : ∀ v' w', w'.ownsRow base E size v' (n + m) (xs ++ ys) → w.grownBy w' v.ownBlock → wpList Tryd.prog ops Q rest (a.put o.dst v') w') : wpList Tryd.prog ops Q (o :: rest) a w := by
  cases A with
  | some ad =>
    refine wpList_append_own w hgd s x S ho base E i0 z size bytes hu hi hz0 hz1 hz2 hzs hsz v n xs hs hown ad m c ys hx hyl (fun j u hj => ?_) h1 h63 hbytes hbase (fun v' w' h4 h5 _ => h v' w' h4 h5)
    have hpos : 0 < ys.length := by
      have := (List.getElem?_eq_some_iff.1 hj).1
      omega
    obtain ⟨g, o', hA, hg, hc⟩ := hy hpos
    have := hc j u hj
    injection hA with hA
    subst hA
    by_cases h0 : j = 0
    · subst h0
      simpa [Addr.add] using this
    · simpa [Addr.add, h0] using this
  | none =>
    obtain ⟨rfl, rfl⟩ := hnil rfl
    have hys : ys = [] := List.eq_nil_of_length_eq_zero (by simpa using hyl)
    subst hys
    refine wpList_plain hgd fun K hK' => ?_
    obtain ⟨A', c', rfl⟩ := own_shape hown
    have hrun := run_append_owned_none (P := Tryd.prog) w base S o.type E i0 size hu hi _ n xs hown
    unfold Oper.wp
    simp [execOp, ho, resolve, invoke, builtin, hs, hx, hrun, Result.andThen]
    exact hK' _ _ (h _ w (by simpa using hown) (World.grownBy.refl _ _))
end
theorem matchV_shape (Z : Int × Bool × Nat) : ∃ (a : Int) (b : Bool) (e : Int), MatchV Z = .tuple #[.int .i64 a, .bool b, .int .i64 e] := ⟨_, _, _, rfl⟩
theorem walkKeysMatch (w : World) (hT : Tabs w) (A1 A2 : Option Addr) (c1 c2 : Nat) (L : List By) (ks : List Ky) (h1 : At w.heap.size w A1 (strs L)) (h2 : At w.heap.size w A2 (kys ks)) (n1 : A1 = none → L.length = 0 ∧ c1 = 0) (n2 : A2 = none → ks.length = 0 ∧ c2 = 0)
    (l1 : L.length * 16 ≤ 140737488351232) (l2 : ks.length * 24 ≤ 140737488351232) (hnm : ∀ k ∈ ks, k.nm.length ≤ 9223372036854775807 ∧ k.md < 256) :
    Calls Tryd.prog 8 #[.slice A1 L.length c1, .slice A2 ks.length c2] w fun e w' => e = .returned (.bool true) ∧ Below w.heap.size w w' := by
  obtain ⟨i0, hi, hz0, hz1, hz2⟩ := info_parts info_str
  obtain ⟨i1, hi', hz0', hz1', hz2'⟩ := info_parts info_key
  have CA := awake_any w hT
  have CM := fun B A1 A2 c1 c2 w1 (hb : Below w.heap.size w w1) a1 a2 hB => Match_any B A1 A2 c1 c2 L ks w1 (tabs_on hT hb) a1 a2 hB (by omega) (by omega)
  have CR := fun w1 (hb : Below w.heap.size w w1) => rMatch_any w.heap.size A1 A2 c1 c2 L ks w1 (tabs_on hT hb) (h1.below hb) (h2.below hb) hb.size (by omega) (by omega) (fun k hk => (hnm k hk).1)
  obtain ⟨va, vb, ve, hV⟩ := matchV_shape (matchL L ks)
  rw [hV] at CM CR
  have HCM := hid CM
  have HCR := hid CR
  have H1 := hid h1
  have H2 := hid h2
  have HL2 := hid l2
  clear CM CR hV hT hnm h1 h2
  go_enter Tryd.func8, Tryd.ntmps8
  go_wp2_with fail
  with_reducible refine CA.mono ?_
  rintro e w1 ⟨rfl, hb1⟩
  clear CA
  go_wp2_with (first | (at_builtin; refine append_many Tryd.underlying38 hi hz0 hz1 hz2 rfl (by decide) rfl (.tmp 18) (.tmp 19) rfl w1.heap.size (.slice none 0 0) 0 [] A1 L.length c1 w.heap.size (strs L) rfl rfl n1 (World.ownsRow_nil _ _ _ _) (H1.out.below hb1) (by rw [strs_len, Nat.mul_one]) (strs_one L) ?_ ?_ (Nat.le_refl _) ?_))
  · unfold maxLen; omega
  · omega
  intro v2 w2 hown2 hg2
  have hb2 := (Below.refl w1.heap.size w1).grown hg2 (Nat.le_refl _) (fun k hk => by cases hk)
  have hs2 := hb2.size
  have hB2 := hb1.trans (hb2.mono hb1.size)
  replace hown2 : w2.ownsRow w1.heap.size 9 1 v2 L.length (strs L) := by simpa using hown2
  obtain ⟨A3, c3, rfl⟩ := own_shape hown2
  clear hg2 hb2
  have HOM := hid hown2
  have l2' := HL2.out
  go_wp2_with (first | (at_builtin; refine append_many Tryd.underlying23 hi' hz0' hz1' hz2' rfl (by decide) rfl (.tmp 21) (.tmp 22) rfl w2.heap.size (.slice none 0 0) 0 [] A2 ks.length c2 w.heap.size (kys ks) rfl rfl n2 (World.ownsRow_nil _ _ _ _) (H2.out.below hB2) (kys_len ks) (kys_one ks) ?_ ?_ (Nat.le_refl _) ?_))
  · unfold maxLen; omega
  · omega
  intro v3 w3 hown3 hg3
  have hb3 := (Below.refl w2.heap.size w2).grown hg3 (Nat.le_refl _) (fun k hk => by cases hk)
  have hs3 := hb3.size
  have hB3 := hB2.trans (hb3.mono hB2.size)
  replace hown3 : w3.ownsRow w2.heap.size 31 2 v3 ks.length (kys ks) := by simpa using hown3
  obtain ⟨A4, c4, rfl⟩ := own_shape hown3
  have a1 := At.of_own (own_below' HOM.out hb3)
  have a2 := At.of_own hown3
  clear hg3 hb3 hown3 hown2
  have C1 := HCM.out w3.heap.size A3 A4 c3 c4 w3 hB3 a1 a2 (Nat.le_refl _)
  have HA1 := hid a1
  have HA2 := hid a2
  clear a1 a2
  go_wp2_with fail
  with_reducible refine C1.mono ?_
  rintro e w4 ⟨rfl, hb4⟩
  have hB4 := hB3.trans (hb4.mono hB3.size)
  have C2 := HCR.out w4 hB4
  clear C1
  go_wp2_with fail
  with_reducible refine C2.mono ?_
  rintro e w5 ⟨rfl, hb5⟩
  have hB5 := hB4.trans (hb5.mono hB4.size)
  have hb35 := hb4.trans (hb5.mono hb4.size)
  clear C2 hb4 hb5
  go_wp2
  go_loopw [14] (fun i wr => ∃ k : Nat, i = .int .i64 k ∧ k ≤ L.length ∧ Below w3.heap.size w3 wr) (fun i _ => L.length - (RowKit.intOf i).toNat)
  case atStart => exact ⟨0, rfl, by omega, hb35⟩
  case round =>
    obtain ⟨k, rfl, hk, hbr⟩ := hrel
    have hsr := hbr.size
    by_cases hb : k < L.length
    · have i2 : (k : Int) < (L.length : Int) := by omega
      have hs31 := hB3.size
      obtain ⟨g1, o1, rfl, hg1, x0⟩ := (HA1.out.below hbr).st hb
      obtain ⟨g2, o2, rfl, hg2, y0⟩ := (H1.out.below (hB3.trans (hbr.mono hB3.size))).st hb
      have lg1 : g1 < wr.heap.size := by omega
      have lg2 : g2 < wr.heap.size := by omega
      obtain ⟨sb, hsb⟩ : ∃ y, (⟨L[k].toArray⟩ : ByteArray) = y := ⟨_, rfl⟩
      rw [hsb] at x0 y0
      clear hsb
      go_wp2
      refine region_ext mixed (by kernel_rfl) ?_
      (repeat (go_big_quiet_step (fail)))
      refine wpQuiet_nil ?_
      intro w6 hb6
      go_wp2
      go_roundw
      case rel => exact ⟨k + 1, by go_num, by omega, hbr.trans (hb6.mono hsr)⟩
      case measure => simp [RowKit.intOf]; omega
    · have i2 : ¬ ((k : Int) < (L.length : Int)) := by omega
      have CS := Same_any w3.heap.size A4 A2 c4 c2 ks ks wr (HA2.out.below hbr) ((H2.out.below (hB3.trans (hbr.mono hB3.size))).mono hB3.size) hsr (by omega) (by omega)
      rw [decide_eq_true rfl] at CS
      go_wp2_with fail
      with_reducible refine CS.mono ?_
      rintro e w7 ⟨rfl, hb7⟩
      go_wp2
      go_ret
      exact ⟨rfl, hB3.trans ((hbr.trans (hb7.mono hsr)).mono hB3.size)⟩
end Go.Proofs.YtddigbhijfpmkaaDoor
