/- Layer 10: Share, Row, both sides. -/
import Derived.Test.YthannibclhidcaaShWalk
import Derived.Test.YthannibclhidcaaShRefWalk
namespace Go.Proofs.Ythannibclhidcaa
set_option linter.unusedVariables false
set_option linter.unusedSimpArgs false
open Go.RowKit
attribute [local go_sem] max_fold min_fold

def okR (n : Int) : Bool := inB n 0 32768
def shareE (L : List T3) (room : Int) : Int := if chk L = 0 then (if okR room then 0 else 2) else chk L
def shareR (L : List T3) (room : Int) : List Int := if shareE L room = 0 then shareP L room else []
theorem shareE_ok {L : List T3} {room : Int} (h : shareE L room = 0) : chk L = 0 ∧ okR room = true := by
  unfold shareE at h
  split at h
  · rename_i h0
    split at h
    · exact ⟨h0, by assumption⟩
    · omega
  · rename_i h0
    exact absurd h h0

set_option maxHeartbeats 1000000 in
theorem Share_any (B : Nat) (A : Option Addr) (c : Nat) (L : List T3) (room : Int) (w : World) (hA : At B w A (t3s L)) (hB : B ≤ w.heap.size) (hl : L.length ≤ 9000000000000000000) :
    Calls Try.prog 20 #[.slice A L.length c, .int .i64 room] w (IntsE (shareR L room) (shareE L room) w) := by
  by_cases h0 : chk L = 0
  · obtain ⟨hlen, hall⟩ := chk_ok h0
    have HA := Go.Lib.hid hall
    have HC := Go.Lib.hid (fun w h1 h2 => h0 ▸ check_any B A c L w h1 h2 hl)
    cases hr : okR room
    · rw [show shareE L room = 2 by simp [shareE, h0, hr], show shareR L room = [] by simp [shareR, shareE, h0, hr]]
      have HR : Hid (inB room 0 32768 = false) := Go.Lib.hid hr
      clear h0 hall hr
      go_enter Try.func20, Try.ntmps20
      go_wp2_with fail
      refine (HC.out _ hA hB).mono ?_
      rintro e w1 ⟨rfl, hb1⟩
      go_wp2_with fail
      refine (within_any _ _ _ _).mono ?_
      rintro e w' ⟨rfl, rfl⟩
      have hr := HR.out
      go_wp2
      go_ret2
      exact IntsE.none hb1
    · rw [show shareE L room = 0 by simp [shareE, h0, hr], show shareR L room = shareP L room by simp [shareR, shareE, h0, hr]]
      have HR : Hid (inB room 0 32768 = true) := Go.Lib.hid hr
      have hrb := (inB_iff _ _ _).1 hr
      have hl2 : L.length ≤ 1024 := hlen
      clear h0 hall hr
      go_enter Try.func20, Try.ntmps20
      go_wp2_with fail
      refine (HC.out _ hA hB).mono ?_
      rintro e w1 ⟨rfl, hb1⟩
      have hA1 := hA.below (hb1.mono hB)
      have hs1 := hb1.size
      go_wp2_with fail
      refine (within_any _ _ _ _).mono ?_
      rintro e w' ⟨rfl, rfl⟩
      have hr := HR.out
      go_wp2_with fail
      refine (share_any B A c L room _ hA1 (by omega) hl2 HA.out hrb).mono ?_
      rintro e w2 ⟨A2, c2, rfl, hown, hb2⟩
      clear hr
      go_wp2
      go_ret2
      exact IntsE.mk hown hs1 (hb1.trans (hb2.mono hs1))
  · have hne : (chk L != 0) = true := by simpa using h0
    rw [show shareE L room = chk L by simp [shareE, h0], show shareR L room = [] by simp [shareR, shareE, h0]]
    go_enter Try.func20, Try.ntmps20
    go_wp2_with fail
    refine (check_any B A c L _ hA hB hl).mono ?_
    rintro e w1 ⟨rfl, hb1⟩
    go_wp2
    go_ret2
    exact IntsE.none hb1

set_option maxHeartbeats 1000000 in
theorem rShare_any (B : Nat) (A : Option Addr) (c : Nat) (L : List T3) (room : Int) (w : World) (hA : At B w A (t3s L)) (hB : B ≤ w.heap.size) (hl : L.length ≤ 9000000000000000000) :
    Calls Try.prog 21 #[.slice A L.length c, .int .i64 room] w (IntsE (shareR L room) (shareE L room) w) := by
  by_cases h0 : chk L = 0
  · obtain ⟨hlen, hall⟩ := chk_ok h0
    have HA := Go.Lib.hid hall
    have HC := Go.Lib.hid (fun w h1 h2 => h0 ▸ rcheck_any B A c L w h1 h2 hl)
    cases hr : okR room
    · rw [show shareE L room = 2 by simp [shareE, h0, hr], show shareR L room = [] by simp [shareR, shareE, h0, hr]]
      have HR : Hid (inB room 0 32768 = false) := Go.Lib.hid hr
      clear h0 hall hr
      go_enter Try.func21, Try.ntmps21
      go_wp2_with fail
      refine (HC.out _ hA hB).mono ?_
      rintro e w1 ⟨rfl, hb1⟩
      go_wp2_with fail
      refine (room_any _ _).mono ?_
      rintro e w' ⟨rfl, rfl⟩
      have hr := HR.out
      go_wp2
      go_ret2
      exact IntsE.none hb1
    · rw [show shareE L room = 0 by simp [shareE, h0, hr], show shareR L room = shareP L room by simp [shareR, shareE, h0, hr]]
      have HR : Hid (inB room 0 32768 = true) := Go.Lib.hid hr
      have hrb := (inB_iff _ _ _).1 hr
      have hl2 : L.length ≤ 1024 := hlen
      clear h0 hall hr
      go_enter Try.func21, Try.ntmps21
      go_wp2_with fail
      refine (HC.out _ hA hB).mono ?_
      rintro e w1 ⟨rfl, hb1⟩
      have hA1 := hA.below (hb1.mono hB)
      have hs1 := hb1.size
      go_wp2_with fail
      refine (room_any _ _).mono ?_
      rintro e w' ⟨rfl, rfl⟩
      have hr := HR.out
      go_wp2_with fail
      refine (sharing_any B A c L room _ hA1 (by omega) hl2 HA.out hrb).mono ?_
      rintro e w2 ⟨A2, c2, rfl, hown, hb2⟩
      clear hr
      go_wp2
      go_ret2
      exact IntsE.mk hown hs1 (hb1.trans (hb2.mono hs1))
  · have hne : (chk L == 0) = false := by simpa using h0
    have hne2 : (chk L != 0) = true := by simpa using h0
    rw [show shareE L room = chk L by simp [shareE, h0], show shareR L room = [] by simp [shareR, shareE, h0]]
    go_enter Try.func21, Try.ntmps21
    go_wp2_with fail
    refine (rcheck_any B A c L _ hA hB hl).mono ?_
    rintro e w1 ⟨rfl, hb1⟩
    go_wp2
    go_ret2
    exact IntsE.none hb1
end Go.Proofs.Ythannibclhidcaa
