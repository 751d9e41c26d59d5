/- An append onto a row of the call's own, of any size: where the bytes pass 2^47 the walk may leave by the way out. -/
import Derived.Test.YtcfgpmmclijonaaGreatDoorMem
import Derived.Room.AppendOwn
import Derived.Deep.DeepAppendRoom
namespace Go.Proofs.YtcfgpmmclijonaaGreatDoor
set_option linter.unusedVariables false
set_option linter.unusedSimpArgs false
set_option maxRecDepth 100000
open Go.RowKit
section
variable {P : Program} (w : World)
theorem wpList_append_out {ops : Array Oper} {rest : List Oper} {o : Oper} {a : Act} {Q : Exit → Act → World → Prop} (hgd : o.guard = none) (s x : Operand) (t : TypeId)
    (ho : o.op = .call { callee := .builtin .append, args := #[s, x], argTypes := #[t, t] })
    (base : Nat) (e : TypeId) (i : TypeInfo) (z : Value) (size bytes : Nat) (ht : P.underlying t = some (.slice e)) (hi : P.info? e = some i) (hz : i.zero = some z)
    (hsize : i.size = size) (hby : i.bytes = bytes) (hzs : z.cells.size = size) (hsz : 0 < size) (hb0 : 0 < bytes)
    (v : Value) (n : Nat) (xs : List Value) (hs : a.eval s = v) (hown : w.ownsRow base e size v n xs)
    (ad : Addr) (m c : Nat) (news : List Value) (hx : a.eval x = .slice (some ad) m c) (hl : news.length = m * size) (hnews : ∀ j u, news[j]? = some u → w.cell? (ad.add j) = some u) (h1 : ∀ u ∈ news, u.oneCell' = true)
    (hapart : v.ownBlock ≠ some ad.block) (hxrow : Room.holdsV w ad (m * size) = true) (hbase : base ≤ w.heap.size) (hout : 140737488355328 < (n + m) * bytes → LetsOut Q)
    (h : ∀ v' w', w'.ownsRow base e size v' (n + m) (xs ++ news) → w.grownBy w' v.ownBlock → (v' = .slice none 0 0 ↔ v = .slice none 0 0 ∧ m = 0) →
      wpList P ops Q rest (a.put o.dst v') w') : wpList P ops Q (o :: rest) a w := by
  by_cases hB : (n + m) * bytes ≤ 140737488355328
  · have h63 : n + m ≤ maxLen := by
      have : n + m ≤ (n + m) * bytes := Nat.le_mul_of_pos_right _ hb0
      unfold maxLen
      omega
    exact wpList_append_own w hgd s x t ho base e i z size bytes ht hi hz hsize hby hzs hsz v n xs hs hown ad m c news hx hl hnews h1 h63 hB hbase h
  · have hlo := hout (by omega)
    rcases hown.2 with ⟨hv, h0⟩ | ⟨g, cap, cur, hv, hbg, hg, hnc, hcm, hcs, htake⟩
    · -- nothing yet
      have hn0 : n = 0 := h0
      subst hn0
      have hm0 : 0 < m := by
        rcases Nat.eq_zero_or_pos m with h | h
        · subst h
          simp at hB
        · exact h
      have hmm : 140737488355328 < m * bytes := by rw [Nat.zero_add] at hB; omega
      subst hsize
      subst hby
      refine wpList_room (B := False) hgd hlo (fun _ => asks_append (P := P) w s x t ho ?_ ?_) (fun hf => hf.elim)
      all_goals rw [hs, hx, hv]
      all_goals
        by_cases hp : Builtin.nextslicecap (0 + m) 0 * i.bytes ≤ 281474976710656
      · have hmb : m * i.bytes ≤ 281474976710656 := by rw [Nat.zero_add, nextslicecap_zero (by omega)] at hp; exact hp
        have hm63 : (m : Int) ≤ 9223372036854775807 := by
          have : m ≤ m * i.bytes := Nat.le_mul_of_pos_right _ hb0
          omega
        have hge : m * i.bytes ≤ grownCap w (0 + m) 0 e * i.bytes := by
          have := Nat.mul_le_mul_right i.bytes (grownCap_ge w (0 + m) 0 e)
          rwa [Nat.zero_add] at this ⊢
        exact events_append_grow (P := P) w t o.type e i ht hi none (some ad) 0 0 m c (by omega) (by simpa using hm63) hp (by unfold roomBytes; omega)
      · rw [runT_append_beyond (P := P) w t o.type e i ht hi none (some ad) 0 0 m c (by omega) (by omega) (runT_mayShare_nil_cells (P := P) w i.size m ad c hxrow)]
        simp
      · have hmb : m * i.bytes ≤ 281474976710656 := by rw [Nat.zero_add, nextslicecap_zero (by omega)] at hp; exact hp
        have hm63 : (m : Int) ≤ 9223372036854775807 := by
          have : m ≤ m * i.bytes := Nat.le_mul_of_pos_right _ hb0
          omega
        rw [run_append_nil (P := P) w t o.type e i z ht hi hz ad m c news hl hnews (by omega) hm63 hmb]
        exact fun _ => ⟨by simp, by simp, fun _ => by simp⟩
      · rw [← Sem.runT_fst P _ w #[], runT_append_beyond (P := P) w t o.type e i ht hi none (some ad) 0 0 m c (by omega) (by omega) (runT_mayShare_nil_cells (P := P) w i.size m ad c hxrow)]
        exact fun _ => ⟨by simp, by simp, fun _ => by simp⟩
    · subst hv
      by_cases hroom : n + m ≤ cap
      · refine wpList_append_own_spare (P := P) w hgd s x t ho base e i size ht hi hsize g n cap xs hs hown ad m c news hx hl hnews h1 hroom fun w' h2 h3 => h _ w' h2 h3 ?_
        constructor
        · intro hh
          cases hh
        · rintro ⟨hh, _⟩
          cases hh
      · subst hsize
        subst hby
        refine wpList_room (B := False) hgd hlo (fun _ => asks_append (P := P) w s x t ho ?_ ?_) (fun hf => hf.elim)
        all_goals rw [hs, hx]
        all_goals
          by_cases hp : Builtin.nextslicecap (n + m) cap * i.bytes ≤ 281474976710656
        · have hnb : (n + m) * i.bytes ≤ 281474976710656 := Nat.le_trans (Nat.mul_le_mul_right _ (le_nextslicecap (by omega))) hp
          have h63 : ((n + m : Nat) : Int) ≤ 9223372036854775807 := by
            have : n + m ≤ (n + m) * i.bytes := Nat.le_mul_of_pos_right _ hb0
            omega
          have hge := Nat.mul_le_mul_right i.bytes (grownCap_ge w (n + m) cap e)
          exact events_append_grow (P := P) w t o.type e i ht hi (some ⟨g, 0, none⟩) (some ad) n cap m c (by omega) h63 hp (by unfold roomBytes; omega)
        · rw [runT_append_beyond (P := P) w t o.type e i ht hi (some ⟨g, 0, none⟩) (some ad) n cap m c (by omega) (by omega) (runT_mayShare_own_cells (P := P) w i.size n m g cap cur e hg hnc hcs ad c (fun hh => hapart (by simp [Value.ownBlock, hh])) hxrow)]
          simp
        · have hnb : (n + m) * i.bytes ≤ 281474976710656 := Nat.le_trans (Nat.mul_le_mul_right _ (le_nextslicecap (by omega))) hp
          have h63 : ((n + m : Nat) : Int) ≤ 9223372036854775807 := by
            have : n + m ≤ (n + m) * i.bytes := Nat.le_mul_of_pos_right _ hb0
            omega
          have holds : ∀ j u, xs[j]? = some u → w.cell? ((⟨g, 0, none⟩ : Addr).add j) = some u := hown.cells (g := g) rfl
          rw [run_append_grow (P := P) w t o.type e i z ht hi hz ⟨g, 0, none⟩ n cap xs hown.1 holds ad m c news hl hnews (by omega) h63 hp]
          exact fun _ => ⟨by simp, by simp, fun _ => by simp⟩
        · rw [← Sem.runT_fst P _ w #[], runT_append_beyond (P := P) w t o.type e i ht hi (some ⟨g, 0, none⟩) (some ad) n cap m c (by omega) (by omega) (runT_mayShare_own_cells (P := P) w i.size n m g cap cur e hg hnc hcs ad c (fun hh => hapart (by simp [Value.ownBlock, hh])) hxrow)]
          exact fun _ => ⟨by simp, by simp, fun _ => by simp⟩
end
end Go.Proofs.YtcfgpmmclijonaaGreatDoor
