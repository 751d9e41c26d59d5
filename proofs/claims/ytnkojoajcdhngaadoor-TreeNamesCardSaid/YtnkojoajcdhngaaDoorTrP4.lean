/- Layer 8: plain: a tree put into a tree. -/
import Derived.Test.YtnkojoajcdhngaaDoorTrPp
namespace Go.Proofs.YtnkojoajcdhngaaDoor
set_option linter.unusedVariables false
set_option linter.unusedSimpArgs false
set_option maxRecDepth 100000

/-- The rows of one tree, and those of another one behind them. -/
def catK (n : Nat) (K1 K2 : Nat → List Int) (i : Nat) : List Int := if i < n then K1 i else (K2 (i - n)).map (· + (n : Int))
theorem catK_out {n m : Nat} {K1 K2 : Nat → List Int} (h : ∀ i, m ≤ i → K2 i = []) : ∀ i, n + m ≤ i → catK n K1 K2 i = [] := fun i hi => by
  unfold catK
  rw [if_neg (by omega), h (i - n) (by omega)]
  rfl
theorem nodup_add {l : List Int} (n : Int) (h : l.Nodup) : (l.map (· + n)).Nodup := by
  rw [List.nodup_iff_pairwise_ne, List.pairwise_map]
  exact (List.nodup_iff_pairwise_ne.1 h).imp fun hab e => hab (by omega)
theorem TreeOk.put {L M : List Nd} {U D U2 D2 : List Int} (h : TreeOk L U D) (h2 : TreeOk M U2 D2) {node : Int} {a : Nat} (h0 : 0 ≤ node) (h1 : node < L.length) :
    KTree (insK (catK L.length (kidF L L.length) (kidF M M.length)) node.toNat a L.length) (L.length + M.length) 128
      (fun j => if j < L.length then (U.getD j 0).toNat else if j = L.length then node.toNat else L.length + (U2.getD (j - L.length) 0).toNat)
      (fun j => if j < L.length then (D.getD j 0).toNat else (D.getD node.toNat 0).toNat + (D2.getD (j - L.length) 0).toNat) := by
  obtain ⟨n, hn⟩ : ∃ n, L.length = n := ⟨_, rfl⟩
  obtain ⟨m, hm⟩ : ∃ m, M.length = m := ⟨_, rfl⟩
  have k1 := h.kt
  have k2 := h2.kt
  have d0 := h2.d0
  have dep2 := h2.dep
  have m1 := h2.n1
  have hkid2 : ∀ i, i < m → ∀ q ∈ kidF M m i, (i : Int) < q := fun i hi q hq => by
    rw [← hm] at hi hq
    rw [kidF_at hi] at hq
    exact (h2.kid i hi q hq).1
  rw [hn] at k1 h1 ⊢
  rw [hm] at k2 dep2 m1 ⊢
  have hold : ∀ i, i < n → ∀ k ∈ kidF L n i, 0 ≤ k ∧ k < ((n + m : Nat) : Int) ∧ (if k.toNat < n then (U.getD k.toNat 0).toNat else if k.toNat = n then node.toNat else n + (U2.getD (k.toNat - n) 0).toNat) = i ∧
      (if k.toNat < n then (D.getD k.toNat 0).toNat else (D.getD node.toNat 0).toNat + (D2.getD (k.toNat - n) 0).toNat) = (if i < n then (D.getD i 0).toNat else (D.getD node.toNat 0).toNat + (D2.getD (i - n) 0).toNat) + 1 := fun i hi k hk => by
    obtain ⟨a1, a2, a3, a4⟩ := k1.kr i hi k hk
    exact ⟨a1, by omega, by rw [if_pos (by omega)]; exact a3, by rw [if_pos (by omega), if_pos hi]; exact a4⟩
  have hcat : ∀ i, i < n + m → ∀ k ∈ catK n (kidF L n) (kidF M m) i, 0 ≤ k ∧ k < ((n + m : Nat) : Int) ∧ (if k.toNat < n then (U.getD k.toNat 0).toNat else if k.toNat = n then node.toNat else n + (U2.getD (k.toNat - n) 0).toNat) = i ∧
      (if k.toNat < n then (D.getD k.toNat 0).toNat else (D.getD node.toNat 0).toNat + (D2.getD (k.toNat - n) 0).toNat) = (if i < n then (D.getD i 0).toNat else (D.getD node.toNat 0).toNat + (D2.getD (i - n) 0).toNat) + 1 := fun i hi k hk => by
    unfold catK at hk
    split at hk
    · rename_i hin
      exact hold i hin k hk
    · rename_i hin
      obtain ⟨q, hq, rfl⟩ := List.mem_map.1 hk
      obtain ⟨a1, a2, a3, a4⟩ := k2.kr (i - n) (by omega) q hq
      have hq1 := hkid2 (i - n) (by omega) q hq
      have e1 : (q + (n : Int)).toNat = q.toNat + n := by omega
      have e2 : q.toNat + n - n = q.toNat := by omega
      refine ⟨by omega, by omega, ?_, ?_⟩
      · rw [e1, if_neg (by omega), if_neg (by omega), e2, a3]
        omega
      · rw [e1, if_neg (by omega), if_neg hin, e2, a4]
        omega
  refine ⟨fun i hi k hk => ?_, fun i hi => ?_, fun i hi => ?_⟩
  · unfold insK at hk
    split at hk
    · rename_i e
      rcases mem_ins.1 hk with rfl | hk
      · have en : ((n : Int)).toNat = n := by omega
        refine ⟨by omega, by omega, ?_, ?_⟩
        · show (if (n : Int).toNat < n then _ else if (n : Int).toNat = n then _ else _) = _
          rw [en, if_neg (by omega), if_pos rfl, e]
        · show (if (n : Int).toNat < n then _ else (D.getD node.toNat 0).toNat + (D2.getD ((n : Int).toNat - n) 0).toNat) = (if i < n then _ else _) + 1
          rw [en, if_neg (by omega), if_pos (by omega), Nat.sub_self, d0, e]
          rfl
      · exact hcat i hi k hk
    · exact hcat i hi k hk
  · have hnd : (catK n (kidF L n) (kidF M m) i).Nodup := by
      unfold catK
      split
      · rename_i hin
        exact k1.kn i hin
      · exact nodup_add _ (k2.kn (i - n) (by omega))
    unfold insK
    split
    · rename_i e
      refine nodup_ins hnd fun hmem => ?_
      unfold catK at hmem
      rw [if_pos (by omega)] at hmem
      have := (k1.kr i (by omega) _ hmem).2.1
      omega
    · exact hnd
  · show (if i < n then (D.getD i 0).toNat else (D.getD node.toNat 0).toNat + (D2.getD (i - n) 0).toNat) ≤ 128
    have e1 : (D.getD node.toNat 0).toNat ≤ 64 := k1.db node.toNat (by omega)
    split
    · rename_i hin
      have : (D.getD i 0).toNat ≤ 64 := k1.db i hin
      omega
    · have : (D2.getD (i - n) 0).toNat ≤ 64 := k2.db (i - n) (by omega)
      omega
end Go.Proofs.YtnkojoajcdhngaaDoor
