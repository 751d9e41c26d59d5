/- Layer 10: the law FlexFair, whole. -/
import Derived.Test.YthannibclhidcaaFlexM
namespace Go.Proofs.Ythannibclhidcaa
set_option linter.unusedVariables false
set_option linter.unusedSimpArgs false
open Go.RowKit

set_option maxRecDepth 100000 in
set_option maxHeartbeats 4000000 in
theorem walkFlexFair (w : World) (A : Option Addr) (c : Nat) (L : List T3) (hA : At w.heap.size w A (t3s L)) (hnil : A = none → L.length = 0 ∧ c = 0) (hlc : L.length ≤ c) (hcm : c ≤ maxLen) (room : Int) (hx : (Lit.int .i64 room).wf = true) :
    Calls Try.prog 6 #[.slice A L.length c, .int .i64 room] w fun e w' => e = .returned (.bool true) ∧ Below w.heap.size w w' := by
  have hm : (L.length : Int) ≤ 9223372036854775807 := by unfold maxLen at hcm; omega
  by_cases hbig : 300 < L.length
  · have hb : (300 : Int) < (L.length : Int) := by omega
    go_enter Try.func6, Try.ntmps6
    go_wp2_with fail
    refine (alive_any _).mono ?_
    rintro e w1 ⟨rfl, hb1⟩
    go_wp2
    go_ret
    exact ⟨rfl, hb1⟩
  · have hb : ¬ (300 : Int) < (L.length : Int) := by omega
    by_cases he : shareE L room = 0
    · obtain ⟨h0, hr⟩ := shareE_ok he
      obtain ⟨hlen, hall⟩ := chk_ok h0
      have hrb := (inB_iff _ _ _).1 hr
      have hso := share_out hlen hall hrb
      have hF := share_fair hall hrb
      have hsp := sumP_bd hall
      have hS := fair_sum hall hF
      have hSH : ∀ w, At w.heap.size w A (t3s L) → w.heap.size ≤ w.heap.size → Calls Try.prog 20 #[.slice A L.length c, .int .i64 room] w (IntsE (shareP L room) 0 w) := fun w h1 h2 => by
        have := Share_any (w.heap.size) A c L room w h1 h2 (by omega)
        rwa [show shareR L room = shareP L room by simp [shareR, he], he] at this
      have hNE : ∀ w, At w.heap.size w A (t3s L) → w.heap.size ≤ w.heap.size → Calls Try.prog 22 #[.slice A L.length c] w fun e w' => e = .returned (.tuple #[.int .i64 (sumP L), .int .i64 0]) ∧ Below w.heap.size w w' := fun w h1 h2 => by
        have := need_any (w.heap.size) A c L w h1 h2 (by omega)
        rwa [show needR L = sumP L by simp [needR, h0], h0] at this
      have hMO : ∀ w, At w.heap.size w A (t3s L) → w.heap.size ≤ w.heap.size → Calls Try.prog 24 #[.slice A L.length c] w fun e w' => e = .returned (.tuple #[.int .i64 (mostG L 0), .int .i64 0]) ∧ Below w.heap.size w w' := fun w h1 h2 => by
        have := most_any (w.heap.size) A c L w h1 h2 (by omega)
        rwa [show mostR L = mostG L 0 by simp [mostR, h0], h0] at this
      have htop : topS L ≤ 1024 * 16384 := by
        have h3 : ∀ M : List T3, (∀ t ∈ M, mayT t = true) → topS M ≤ M.length * 16384 := by
          intro M
          induction M with
          | nil => intro _; simp [topS]
          | cons t M ih =>
            intro h
            have h1 := ih fun t ht => h t (by simp [ht])
            have h2 := (mayT_iff t).1 (h t (by simp))
            simp only [topS, topT, List.length_cons]
            split <;> omega
        have := h3 L hall
        omega
      rcases most_cases hall with ⟨h1, _⟩ | ⟨h1, h2, _⟩
      · exact fair_any w A c L hA L.length (Go.Lib.hid rfl) hb room (sumP L) (mostG L 0) (shareP L room) (Go.Lib.hid hso.1) (Go.Lib.hid hSH) (Go.Lib.hid hNE) (Go.Lib.hid hMO) (by omega) h1 hrb (Go.Lib.hid (hF.at hall hso.2)) (Go.Lib.hid (take_bd hso.2 (by omega))) (Go.Lib.hid hS)
      · exact fair_top w A c L hA L.length (Go.Lib.hid rfl) hb room (sumP L) (mostG L 0) (shareP L room) (Go.Lib.hid hso.1) (Go.Lib.hid hSH) (Go.Lib.hid hNE) (Go.Lib.hid hMO) (by omega) (by omega) hrb (Go.Lib.hid (hF.at hall hso.2)) (Go.Lib.hid (take_bd hso.2 (by omega))) (Go.Lib.hid hS)
    · exact fair_no w A c L hA hb room he
end Go.Proofs.Ythannibclhidcaa
