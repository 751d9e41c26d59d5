/- Layer 21: the reference's 'beginning'; that it says which broken runes are waited on. -/
import Derived.Test.YtddigbhijfpmkaaDoorKeRc
namespace Go.Proofs.YtddigbhijfpmkaaDoor
set_option linter.unusedVariables false
set_option linter.unusedSimpArgs false
set_option maxRecDepth 100000
open Go.RowKit Go.Shelf Go.Lib
set_option maxRecDepth 100000
set_option maxHeartbeats 8000000

def extL (l : By) (n a : Nat) : By := l ++ a.toUInt8 :: List.replicate (n - 1) 128
def begP (l : By) (n a : Nat) : Prop := wd (extL l n a) = (extL l n a).length ∧ 1 < wd (extL l n a)
theorem ext_len (l : By) {n : Nat} (a : Nat) (h : 1 ≤ n) : (extL l n a).length = l.length + n := by
  unfold extL
  rw [List.length_append, List.length_cons, List.length_replicate]
  omega
theorem ext_more (l : By) {n : Nat} (a : Nat) (h : 1 ≤ n) : extL l (n + 1) a = extL l n a ++ [128] := by
  unfold extL
  rw [List.append_assoc, List.cons_append, show n + 1 - 1 = (n - 1) + 1 by omega, List.replicate_succ']
theorem ext_low (l : By) (n a : Nat) {i : Nat} (h : i < l.length) : (extL l n a).getD i 0 = l.getD i 0 := getD_app _ h
theorem ext_at (l : By) (n : Nat) {a : Nat} (ha : a < 256) : ((extL l n a).getD l.length 0).toNat = a := by
  unfold extL
  rw [List.getD_eq_getElem?_getD, List.getElem?_append_right (Nat.le_refl _), Nat.sub_self]
  simp
  omega
theorem ext_high (l : By) {n i : Nat} (a : Nat) (h1 : l.length < i) (h2 : i < l.length + n) : ((extL l n a).getD i 0).toNat = 128 := by
  unfold extL
  rw [List.getD_eq_getElem?_getD, List.getElem?_append_right (by omega), show i - l.length = (i - l.length - 1) + 1 by omega, List.getElem?_cons_succ, List.getElem?_replicate, if_pos (by omega)]
  rfl
theorem slow_w {n b0 b1 b2 b3 sz lo hi : Nat} (hsz : sz = 2 ∨ sz = 3 ∨ sz = 4) :
    (slowN n b0 b1 b2 b3 sz lo hi).2 = if sz ≤ n ∧ lo ≤ b1 ∧ b1 ≤ hi ∧ (3 ≤ sz → 128 ≤ b2 ∧ b2 ≤ 191) ∧ (4 ≤ sz → 128 ≤ b3 ∧ b3 ≤ 191) then sz else 1 := by
  unfold slowN
  split
  · rw [if_neg (by omega)]
  · split
    · rw [if_neg (by omega)]
    · split
      · rw [if_pos (by omega)]
        show 2 = sz
        omega
      · split
        · rw [if_neg (by omega)]
        · split
          · rw [if_pos (by omega)]
            show 3 = sz
            omega
          · split
            · rw [if_neg (by omega)]
            · rw [if_pos (by omega)]
              show 4 = sz
              omega
theorem sz_two {b : Nat} (hx : firstT b < 240) : firstT b % 8 = 2 ∨ firstT b % 8 = 3 ∨ firstT b % 8 = 4 := by
  rcases firstT_low hx with h | h | h | h | h | h | h
  · rw [firstT_C2 h]; decide
  · rw [firstT_E0 h]; decide
  · rw [firstT_E1 h]; decide
  · rw [firstT_ED h]; decide
  · rw [firstT_F0 h]; decide
  · rw [firstT_F1 h]; decide
  · rw [firstT_F4 h]; decide
theorem acc_in {b : Nat} (hx : firstT b < 240) : 128 ≤ accLo (firstT b / 16) ∧ accLo (firstT b / 16) ≤ 191 ∧ accLo (firstT b / 16) ≤ accHi (firstT b / 16) ∧ accHi (firstT b / 16) ≤ 191 := by
  rcases firstT_low hx with h | h | h | h | h | h | h
  · rw [firstT_C2 h]; decide
  · rw [firstT_E0 h]; decide
  · rw [firstT_E1 h]; decide
  · rw [firstT_ED h]; decide
  · rw [firstT_F0 h]; decide
  · rw [firstT_F1 h]; decide
  · rw [firstT_F4 h]; decide
theorem wd_slow {l : By} (hl : l ≠ []) (hx : firstT (l.getD 0 0).toNat < 240) : wd l = (slowN l.length (l.getD 0 0).toNat (l.getD 1 0).toNat (l.getD 2 0).toNat (l.getD 3 0).toNat (firstT (l.getD 0 0).toNat % 8) (accLo (firstT (l.getD 0 0).toNat / 16)) (accHi (firstT (l.getD 0 0).toNat / 16))).2 := by
  unfold wd
  rw [decodeL_eq, slow_eq _ _ _ _ _ (by have := pos_of hl; omega) (u8 _) (u8 _) (u8 _) hx]
theorem wd_fast {l : By} (hx : ¬ firstT (l.getD 0 0).toNat < 240) : wd l = 1 := by
  unfold wd
  rw [decodeL_eq]
  rcases firstT_ge hx with h | h
  · rw [ascii_eq _ _ _ _ _ h]
  · rw [bad_eq _ _ _ _ _ (u8 _) h]
/-- What is broken and not whole can become a rune, and nothing else can. -/
theorem begins_rune {l : By} (h1 : 1 ≤ l.length) (h3 : l.length ≤ 3) : fullB l = false ↔ ∃ n a, 1 ≤ n ∧ n ≤ 3 ∧ 128 ≤ a ∧ a ≤ 191 ∧ begP l n a := by
  have hl : l ≠ [] := List.length_pos_iff.1 h1
  rw [← Bool.not_eq_true, full_iff]
  unfold fullN
  by_cases hx : firstT (l.getD 0 0).toNat < 240
  · have hsz := sz_two hx
    have hac := acc_in hx
    have hw := fun n a (hn : 1 ≤ n) => wd_slow (l := extL l n a) (fun e => by have := ext_len l a hn; rw [e, List.length_nil] at this; omega) (by rw [ext_low l n a h1]; exact hx)
    constructor
    · intro hf
      have hlt : l.length < firstT (l.getD 0 0).toNat % 8 := by omega
      refine ⟨firstT (l.getD 0 0).toNat % 8 - l.length, if l.length = 1 then accLo (firstT (l.getD 0 0).toNat / 16) else 128, by omega, by omega, by split <;> omega, by split <;> omega, ?_⟩
      have hn : 1 ≤ firstT (l.getD 0 0).toNat % 8 - l.length := by omega
      have hlen := ext_len l (if l.length = 1 then accLo (firstT (l.getD 0 0).toNat / 16) else 128) hn
      have hww := hw _ (if l.length = 1 then accLo (firstT (l.getD 0 0).toNat / 16) else 128) hn
      have ha := ext_at l (firstT (l.getD 0 0).toNat % 8 - l.length) (a := if l.length = 1 then accLo (firstT (l.getD 0 0).toNat / 16) else 128) (by split <;> omega)
      have hlo := fun i (h : i < l.length) => ext_low l (firstT (l.getD 0 0).toNat % 8 - l.length) (if l.length = 1 then accLo (firstT (l.getD 0 0).toNat / 16) else 128) h
      have hhi := fun i (g1 : l.length < i) (g2 : i < l.length + (firstT (l.getD 0 0).toNat % 8 - l.length)) => ext_high l (if l.length = 1 then accLo (firstT (l.getD 0 0).toNat / 16) else 128) g1 g2
      rw [hlo 0 h1] at hww
      unfold begP
      generalize extL l (firstT (l.getD 0 0).toNat % 8 - l.length) (if l.length = 1 then accLo (firstT (l.getD 0 0).toNat / 16) else 128) = t at *
      rw [hww, slow_w hsz, if_pos ?_]
      · omega
      · have hc : l.length = 1 ∨ l.length = 2 ∨ l.length = 3 := by omega
        rcases hc with hc | hc | hc
        · rw [hc] at ha hhi hlt hf
          rw [if_pos rfl] at ha
          refine ⟨by omega, by omega, by omega, fun h => ?_, fun h => ?_⟩
          · have := hhi 2 (by omega) (by omega)
            omega
          · have := hhi 3 (by omega) (by omega)
            omega
        · rw [hc] at ha hhi hlt hf
          rw [if_neg (by decide)] at ha
          have := hlo 1 (by omega)
          rw [this]
          refine ⟨by omega, by omega, by omega, fun h => by omega, fun h => ?_⟩
          have := hhi 3 (by omega) (by omega)
          omega
        · rw [hc] at ha hhi hlt hf
          rw [if_neg (by decide)] at ha
          have e1 := hlo 1 (by omega)
          have e2 := hlo 2 (by omega)
          rw [e1, e2]
          exact ⟨by omega, by omega, by omega, fun h => by omega, fun h => by omega⟩
    · rintro ⟨n, a, hn1, hn3, ha1, ha2, hp, hp1⟩
      have hlen := ext_len l a hn1
      have hww := hw n a hn1
      have hlo := fun i (h : i < l.length) => ext_low l n a h
      rw [hlo 0 h1] at hww
      rw [hlen] at hp
      generalize extL l n a = t at *
      rw [slow_w hsz] at hww
      by_cases hcc : firstT (l.getD 0 0).toNat % 8 ≤ t.length ∧ accLo (firstT (l.getD 0 0).toNat / 16) ≤ (t.getD 1 0).toNat ∧ (t.getD 1 0).toNat ≤ accHi (firstT (l.getD 0 0).toNat / 16) ∧ (3 ≤ firstT (l.getD 0 0).toNat % 8 → 128 ≤ (t.getD 2 0).toNat ∧ (t.getD 2 0).toNat ≤ 191) ∧ (4 ≤ firstT (l.getD 0 0).toNat % 8 → 128 ≤ (t.getD 3 0).toNat ∧ (t.getD 3 0).toNat ≤ 191)
      · rw [if_pos hcc] at hww
        obtain ⟨q1, q2, q3, q4, q5⟩ := hcc
        rintro ⟨_, h | ⟨h, h'⟩ | ⟨h, h'⟩⟩
        · omega
        · rw [hlo 1 h] at q2 q3
          omega
        · rw [hlo 2 h] at q4
          omega
      · rw [if_neg hcc] at hww
        omega
  · constructor
    · intro hf
      exfalso
      apply hf
      refine ⟨by omega, .inl ?_⟩
      rcases firstT_ge hx with h | h
      · rw [h]
        omega
      · rw [h]
        omega
    · rintro ⟨n, a, hn1, hn3, ha1, ha2, hp, hp1⟩
      have := wd_fast (l := extL l n a) (by rw [ext_low l n a h1]; exact hx)
      omega
theorem beginning_any (s : ByteArray) (w : World) (hT : Tabs w) (h1 : 1 ≤ s.size) (h3 : s.size ≤ 3) (b : Bool) (hb : b = true ↔ ∃ n a, 1 ≤ n ∧ n ≤ 3 ∧ 128 ≤ a ∧ a ≤ 191 ∧ begP s.data.toList n a) :
    Calls Tryd.prog 51 #[.string s] w fun e w' => e = .returned (.bool b) ∧ Below w.heap.size w w' := by
  have CD := fun t w1 (hb : Below w.heap.size w w1) => dec_any t w1 (tabs_on hT hb)
  have HCD := hid CD
  have HB := hid hb
  have hel := fun n a (hn : 1 ≤ n) => ext_len s.data.toList (n := n) a hn
  have HEL := hid hel
  clear CD hb hT hel
  go_enter Tryd.func51, Tryd.ntmps51
  go_wp2
  go_loopw [2, 3] (fun v2 v3 wr => ∃ n : Nat, v3 = .int .i64 n ∧ 1 ≤ n ∧ n ≤ 4 ∧ Hid (∀ n' a, 1 ≤ n' → n' < n → 128 ≤ a → a ≤ 191 → ¬ begP s.data.toList n' a) ∧ Below w.heap.size w wr) (fun _ v _ => 4 - (RowKit.intOf v).toNat)
  case atStart => exact ⟨1, rfl, by omega, by omega, hid (fun n' a h1 h2 => by omega), Below.refl _ _⟩
  case round =>
    obtain ⟨n, rfl, hn1, hn4, HN, hbr⟩ := hrel
    by_cases hn3 : n ≤ 3
    · have i1 : (n : Int) ≤ 3 := by omega
      have i2 : decide ((n : Int) ≤ 3) = true := decide_eq_true i1
      obtain ⟨wo, rfl⟩ : ∃ x, x = wr := ⟨_, rfl⟩
      go_wp2
      go_loopw [2, 4] (fun v2 v4 wr => ∃ a : Nat, v4 = .int .i64 a ∧ 128 ≤ a ∧ a ≤ 192 ∧ Hid (∀ a', 128 ≤ a' → a' < a → ¬ begP s.data.toList n a') ∧ Below w.heap.size w wr) (fun _ v _ => 192 - (RowKit.intOf v).toNat)
      case atStart => exact ⟨128, rfl, by omega, by omega, hid (fun a' h1 h2 => by omega), hbr⟩
      case round =>
        clear hbr
        obtain ⟨a, rfl, ha1, ha2, HA, hbr⟩ := hrel
        by_cases ha3 : a ≤ 191
        · have j1 : (a : Int) ≤ 191 := by omega
          have j2 : decide ((a : Int) ≤ 191) = true := decide_eq_true j1
          have hsr := hbr.size
          obtain ⟨wp, rfl⟩ : ∃ x, x = wr := ⟨_, rfl⟩
          have hcv := conv_one (wp.alloc (.cells #[.int .u8 (a : Int)] 5)) wp.heap.size a (World.alloc_heap_new _ _) (by omega)
          obtain ⟨E, hE⟩ : ∃ E, (⟨#[a.toUInt8]⟩ : ByteArray) = E := ⟨_, rfl⟩
          rw [hE] at hcv
          have hes : E.size = 1 := by rw [← hE]; rfl
          have hed : E.data.toList = [a.toUInt8] := by rw [← hE]
          have HED := hid hed
          have k1 : ¬ 9223372036854775807 < s.size + E.size := by omega
          have k2 : ¬ s.size + E.size > 9223372036854775807 := by omega
          have k3 : ¬ 9223372036854775807 < s.size + 1 := by omega
          have hba := hbr.alloc hsr (.cells #[.int .u8 (a : Int)] 5)
          clear hE hed
          go_wp2
          go_loopw [5, 6] (fun v5 v6 wr => ∃ (i : Nat) (tb : ByteArray), v5 = .string tb ∧ v6 = .int .i64 i ∧ 1 ≤ i ∧ i ≤ n ∧ tb.size = s.size + i ∧ Hid (tb.data.toList = extL s.data.toList i a) ∧ Below w.heap.size w wr) (fun _ v _ => n - (RowKit.intOf v).toNat)
          case atStart =>
            exact ⟨1, s ++ E, rfl, rfl, by omega, by omega, by rw [ByteArray.size_append]; omega, hid (by rw [ba_append', HED.out]; rfl), hba⟩
          case round =>
            clear hbr hba hcv
            obtain ⟨i, tb, rfl, rfl, hi1, hin, htb, HTB, hbr⟩ := hrel
            have hsr := hbr.size
            by_cases hlt : i < n
            · have m1 : (i : Int) < (n : Int) := by omega
              have m2 : decide ((i : Int) < (n : Int)) = true := decide_eq_true m1
              have m3 : decide (i < n) = true := decide_eq_true hlt
              have m4 : ¬ 9223372036854775807 < tb.size + 1 := by omega
              have m5 : ¬ tb.size + 1 > 9223372036854775807 := by omega
              go_wp2
              go_roundw
              case rel => exact ⟨i + 1, tb ++ ⟨#[128]⟩, rfl, by go_num, by omega, by omega, by rw [ByteArray.size_append, htb]; rfl, hid (by rw [ba_append', HTB.out, ext_more _ _ hi1]), hbr⟩
              case measure => simp [RowKit.intOf]; omega
            · have m1 : ¬ (i : Int) < (n : Int) := by omega
              have m2 : decide ((i : Int) < (n : Int)) = false := decide_eq_false m1
              have m3 : decide (i < n) = false := decide_eq_false hlt
              obtain rfl : i = n := by omega
              have C := HCD.out tb wr hbr
              have hne : ¬ tb.data.toList = [] := fun e => by have := ba_len tb; rw [e, List.length_nil] at this; omega
              unfold wdG at C
              rw [if_neg hne, HTB.out] at C
              obtain ⟨R, hR⟩ : ∃ R, rnG (extL s.data.toList i a) = R := ⟨_, rfl⟩
              rw [hR] at C
              have hl := HEL.out i a hi1
              rw [ba_len] at hl
              obtain ⟨W, hW⟩ : ∃ W, wd (extL s.data.toList i a) = W := ⟨_, rfl⟩
              rw [hW] at C
              have hp : begP s.data.toList i a ↔ W = s.size + i ∧ 1 < W := by
                unfold begP
                rw [hW, hl]
              have HP := hid hp
              clear hR hW hl hne hp
              by_cases hq : W = s.size + i ∧ 1 < W
              · obtain ⟨q1, q2⟩ := hq
                have r1 : ((W : Int) == (tb.size : Int)) = true := beq_iff_eq.2 (by omega)
                have r2 : (W == tb.size) = true := beq_iff_eq.2 (by omega)
                have r3 : decide ((1 : Int) < (W : Int)) = true := decide_eq_true (by omega)
                have r4 : decide (1 < W) = true := decide_eq_true q2
                have r5 : W = tb.size := by omega
                have hbt : b = true := HB.out.2 ⟨i, a, hi1, hn3, ha1, ha3, HP.out.2 ⟨q1, q2⟩⟩
                subst hbt
                go_wp2_with fail
                with_reducible refine C.mono ?_
                rintro e w6 ⟨rfl, hb6⟩
                go_wp2
                go_ret
                exact ⟨rfl, hbr.trans (hb6.mono hsr)⟩
              · have HQ := hid hq
                have hc : (((W : Int) == (tb.size : Int)) = false ∧ ¬ W = tb.size ∧ (W == tb.size) = false) ∨ (((W : Int) == (tb.size : Int)) = true ∧ (W == tb.size) = true ∧ decide ((1 : Int) < (W : Int)) = false ∧ decide (1 < W) = false ∧ ¬ 1 < W) := by
                  by_cases h : W = tb.size
                  · have h2 : ¬ 1 < W := fun h' => hq ⟨by omega, h'⟩
                    exact .inr ⟨beq_iff_eq.2 (by omega), beq_iff_eq.2 h, decide_eq_false (by omega), decide_eq_false h2, h2⟩
                  · exact .inl ⟨beq_eq_false_iff_ne.2 (by omega), h, beq_eq_false_iff_ne.2 h⟩
                clear hq
                have HA2 : Hid (∀ a', 128 ≤ a' → a' < a + 1 → ¬ begP s.data.toList i a') := hid (fun a' h1 h2 hp => by
                  by_cases e : a' = a
                  · subst e
                    exact HQ.out (HP.out.1 hp)
                  · exact HA.out a' h1 (by omega) hp)
                rcases hc with ⟨q1, q2, q3⟩ | ⟨q1, q2, q3, q4, q5⟩
                all_goals
                  go_wp2_with fail
                  with_reducible refine C.mono ?_
                  rintro e w6 ⟨rfl, hb6⟩
                  go_wp2
                  go_roundw
                  case rel => exact ⟨a + 1, by go_num, by omega, by omega, HA2, hbr.trans (hb6.mono hsr)⟩
                  case measure => simp [RowKit.intOf]; omega
        · have j1 : ¬ (a : Int) ≤ 191 := by omega
          have j2 : decide ((a : Int) ≤ 191) = false := decide_eq_false j1
          have HN2 : Hid (∀ n' a, 1 ≤ n' → n' < n + 1 → 128 ≤ a → a ≤ 191 → ¬ begP s.data.toList n' a) := hid (fun n' a' g1 g2 g3 g4 hp => by
            by_cases e : n' = n
            · subst e
              exact HA.out a' g3 (by omega) hp
            · exact HN.out n' a' g1 (by omega) g3 g4 hp)
          go_wp2
          go_roundw
          case rel => exact ⟨n + 1, by go_num, by omega, by omega, HN2, hbr⟩
          case measure => simp [RowKit.intOf]; omega
    · have i1 : ¬ (n : Int) ≤ 3 := by omega
      have i2 : decide ((n : Int) ≤ 3) = false := decide_eq_false i1
      have hbf : b = false := by
        cases b with
        | false => rfl
        | true =>
          obtain ⟨n', a, g1, g2, g3, g4, hp⟩ := HB.out.1 rfl
          exact absurd hp (HN.out n' a g1 (by omega) g3 g4)
      subst hbf
      go_wp2
      go_ret
      exact ⟨rfl, hbr⟩
end Go.Proofs.YtddigbhijfpmkaaDoor
